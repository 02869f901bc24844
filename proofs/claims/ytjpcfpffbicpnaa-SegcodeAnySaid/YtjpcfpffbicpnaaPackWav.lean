/- Several texts in one. A wavelet tree's levels, plain: stable parts by a bit; where a place goes. No program stands here. | The walk of wavelet.split: a level's bits, and the list in the order of the one below. | The walks of a level's ones and down. | A wavelet tree's counts, plain; a tree in memory. -/
import Derived.Test.YtjpcfpffbicpnaaPackBit
import Derived.Test.YtjpcfpffbicpnaaPackBas
section
set_option linter.unusedVariables false
set_option linter.unusedSimpArgs false
namespace Lec.Wv
/-- A list, those without the bit ahead of those with it. -/
def part (f : Nat → Bool) (l : List Nat) : List Nat := l.filter (fun c => !f c) ++ l.filter f
def nought (f : Nat → Bool) (l : List Nat) : Nat := (l.filter (fun c => !f c)).length
def ones (f : Nat → Bool) (l : List Nat) (i : Nat) : Nat := ((l.take i).filter f).length
def down (f : Nat → Bool) (l : List Nat) (b : Bool) (i : Nat) : Nat := if b then nought f l + ones f l i else i - ones f l i
theorem filter_two (f : Nat → Bool) : ∀ l : List Nat, (l.filter (fun c => !f c)).length + (l.filter f).length = l.length
  | [] => rfl
  | c :: l => by
    have := filter_two f l
    cases h : f c <;> simp [h] <;> omega
theorem part_len (f : Nat → Bool) (l : List Nat) : (part f l).length = l.length := by unfold part; rw [List.length_append]; exact filter_two f l
theorem part_mem (f : Nat → Bool) (l : List Nat) (c : Nat) : c ∈ part f l ↔ c ∈ l := by
  unfold part
  rw [List.mem_append, List.mem_filter, List.mem_filter]
  constructor
  · rintro (h | h) <;> exact h.1
  · intro h
    cases hc : f c
    · exact .inl ⟨h, rfl⟩
    · exact .inr ⟨h, rfl⟩
theorem down_false {f : Nat → Bool} {l : List Nat} {i : Nat} (hi : i ≤ l.length) : down f l false i = ((l.take i).filter (fun c => !f c)).length := by
  unfold down ones
  have := filter_two f (l.take i)
  rw [List.length_take] at this
  simp
  omega
theorem down_true (f : Nat → Bool) (l : List Nat) (i : Nat) : down f l true i = nought f l + ((l.take i).filter f).length := rfl
theorem down_le {f : Nat → Bool} {l : List Nat} {b : Bool} {i : Nat} (hi : i ≤ l.length) : down f l b i ≤ l.length := by
  have h2 := filter_two f l
  have hsub : ∀ g : Nat → Bool, ((l.take i).filter g).length ≤ (l.filter g).length := fun g => ((List.take_sublist i l).filter g).length_le
  cases b
  · rw [down_false hi]; have := hsub (fun c => !f c); omega
  · rw [down_true]; have := hsub f; unfold nought; omega
theorem down_mono {f : Nat → Bool} {l : List Nat} {b : Bool} {i j : Nat} (h : i ≤ j) (hj : j ≤ l.length) : down f l b i ≤ down f l b j := by
  have hsub : ∀ g : Nat → Bool, ((l.take i).filter g).length ≤ ((l.take j).filter g).length := fun g => by
    have : l.take i = (l.take j).take i := by rw [List.take_take, Nat.min_eq_left h]
    rw [this]; exact ((List.take_sublist i _).filter g).length_le
  cases b
  · rw [down_false (Nat.le_trans h hj), down_false hj]; exact hsub _
  · rw [down_true, down_true]; exact Nat.add_le_add_left (hsub f) _
/-- The first i, sifted, are the first of the sifted. -/
theorem take_filter (g : Nat → Bool) (l : List Nat) (i : Nat) : (l.filter g).take ((l.take i).filter g).length = (l.take i).filter g := by
  have h : l.filter g = (l.take i).filter g ++ (l.drop i).filter g := by rw [← List.filter_append, List.take_append_drop]
  rw [h, List.take_left']
  rfl
theorem drop_filter (g : Nat → Bool) (l : List Nat) (i : Nat) : (l.filter g).drop ((l.take i).filter g).length = (l.drop i).filter g := by
  have h : l.filter g = (l.take i).filter g ++ (l.drop i).filter g := by rw [← List.filter_append, List.take_append_drop]
  rw [h, List.drop_left']
  rfl
/-- The first ones with this bit, one level below: up to where a place goes, behind where 0 goes. -/
theorem down_zero (f : Nat → Bool) (l : List Nat) (b : Bool) : down f l b 0 = if b then nought f l else 0 := by cases b <;> simp [down, ones]
/-- What lies between two places goes to what lies between where they go. -/
theorem down_seg {f : Nat → Bool} {l : List Nat} {b : Bool} {lo hi : Nat} (h : lo ≤ hi) (hh : hi ≤ l.length) :
    ((part f l).take (down f l b hi)).drop (down f l b lo) = ((l.take hi).drop lo).filter (fun c => f c == b) := by
  have key : ∀ g : Nat → Bool, ((l.filter g).take ((l.take hi).filter g).length).drop ((l.take lo).filter g).length = ((l.take hi).drop lo).filter g := fun g => by
    rw [take_filter]
    have : l.take lo = (l.take hi).take lo := by rw [List.take_take, Nat.min_eq_left h]
    rw [this, drop_filter]
  cases b
  · rw [down_false (Nat.le_trans h hh), down_false hh]
    unfold part
    rw [List.take_append_of_le_length (by exact ((List.take_sublist hi l).filter _).length_le)]
    rw [key (fun c => !f c)]
    congr 1
    funext c
    cases f c <;> rfl
  · rw [down_true, down_true]
    unfold part nought
    rw [List.take_length_add_append, List.drop_length_add_append, key f]
    congr 1
    funext c
    cases f c <;> rfl
/-- A symbol goes where its bit sends its place. -/
theorem down_at {f : Nat → Bool} {l : List Nat} {i c : Nat} (h : l[i]? = some c) : (part f l)[down f l (f c) i]? = some c := by
  have hi : i < l.length := (List.getElem?_eq_some_iff.1 h).1
  have key : ∀ g : Nat → Bool, g c = true → (l.filter g)[((l.take i).filter g).length]? = some c := fun g hg => by
    have hs : l.filter g = (l.take i).filter g ++ (l.drop i).filter g := by rw [← List.filter_append, List.take_append_drop]
    have hd : l.drop i = c :: l.drop (i + 1) := by
      rw [List.drop_eq_getElem_cons hi]
      have := (List.getElem?_eq_some_iff.1 h).2
      rw [this]
    rw [hs, List.getElem?_append_right (Nat.le_refl _), Nat.sub_self, hd, List.filter_cons, if_pos hg]
    rfl
  cases hb : f c
  · rw [down_false (Nat.le_of_lt hi)]
    unfold part
    have := key (fun c => !f c) (by simp [hb])
    rw [List.getElem?_append_left (List.getElem?_eq_some_iff.1 this).1]
    exact this
  · rw [down_true]
    unfold part nought
    rw [List.getElem?_append_right (by omega), Nat.add_sub_cancel_left]
    exact key f hb
/-- The levels of a list, by these bits, the first one first. -/
def lv (fs : Nat → Nat → Bool) (L : List Nat) : Nat → List Nat
  | 0 => L
  | d + 1 => part (fs d) (lv fs L d)
theorem lv_len (fs : Nat → Nat → Bool) (L : List Nat) : ∀ d, (lv fs L d).length = L.length
  | 0 => rfl
  | d + 1 => by rw [lv, part_len, lv_len fs L d]
theorem lv_mem (fs : Nat → Nat → Bool) (L : List Nat) (c : Nat) : ∀ d, c ∈ lv fs L d ↔ c ∈ L
  | 0 => Iff.rfl
  | d + 1 => by rw [lv, part_mem, lv_mem fs L c d]
/-- Where a place goes, d levels below, on a symbol's way. -/
def pos (fs : Nat → Nat → Bool) (L : List Nat) (c : Nat) : Nat → Nat → Nat
  | 0, i => i
  | d + 1, i => down (fs d) (lv fs L d) (fs d c) (pos fs L c d i)
theorem pos_le {fs : Nat → Nat → Bool} {L : List Nat} {c i : Nat} (hi : i ≤ L.length) : ∀ d, pos fs L c d i ≤ L.length
  | 0 => hi
  | d + 1 => by rw [pos]; have := down_le (f := fs d) (l := lv fs L d) (b := fs d c) (i := pos fs L c d i) (by rw [lv_len]; exact pos_le hi d); rwa [lv_len] at this
theorem pos_mono {fs : Nat → Nat → Bool} {L : List Nat} {c i j : Nat} (h : i ≤ j) (hj : j ≤ L.length) : ∀ d, pos fs L c d i ≤ pos fs L c d j
  | 0 => h
  | d + 1 => by rw [pos, pos]; exact down_mono (pos_mono h hj d) (by rw [lv_len]; exact pos_le hj d)
/-- Do two symbols agree in the first d bits? -/
def agree (fs : Nat → Nat → Bool) (c : Nat) : Nat → Nat → Bool
  | 0, _ => true
  | d + 1, x => agree fs c d x && (fs d x == fs d c)
theorem pos_seg {fs : Nat → Nat → Bool} {L : List Nat} {c i : Nat} (hi : i ≤ L.length) : ∀ d, ((lv fs L d).take (pos fs L c d i)).drop (pos fs L c d 0) = (L.take i).filter (agree fs c d)
  | 0 => by simp [pos, lv, agree]; exact (List.filter_eq_self.2 (by simp)).symm
  | d + 1 => by
    rw [lv, pos, pos, down_seg (pos_mono (Nat.zero_le i) hi d) (by rw [lv_len]; exact pos_le hi d), pos_seg hi d, List.filter_filter]
    congr 1
    funext x
    show _ = agree fs c (d + 1) x
    rw [agree, Bool.and_comm]
/-- Rank. -/
theorem pos_rank {fs : Nat → Nat → Bool} {L : List Nat} {c i D : Nat} (hi : i ≤ L.length) (hag : ∀ x ∈ L, agree fs c D x = (x == c)) : pos fs L c D i - pos fs L c D 0 = ((L.take i).filter (· == c)).length := by
  have h := congrArg List.length (pos_seg (fs := fs) (c := c) hi D)
  rw [List.length_drop, List.length_take, lv_len, Nat.min_eq_left (pos_le hi D)] at h
  rw [h]
  congr 1
  exact List.filter_congr (fun x hx => hag x (List.mem_of_mem_take hx))
/-- A symbol's place stays the symbol's. -/
theorem pos_at {fs : Nat → Nat → Bool} {L : List Nat} {c i : Nat} (h : L[i]? = some c) : ∀ d, (lv fs L d)[pos fs L c d i]? = some c
  | 0 => h
  | d + 1 => by rw [lv, pos]; exact down_at (pos_at h d)
/-- The bits of a symbol below 2^D, the highest first. -/
def bitD (D d c : Nat) : Bool := c / 2 ^ (D - 1 - d) % 2 == 1
/-- A symbol's first d bits, as a number. -/
theorem bit_step {D d c : Nat} (h : d < D) : c / 2 ^ (D - (d + 1)) = 2 * (c / 2 ^ (D - d)) + (if bitD D d c then 1 else 0) := by
  have e : D - d = (D - (d + 1)) + 1 := by omega
  have e2 : D - 1 - d = D - (d + 1) := by omega
  unfold bitD
  rw [e2, e, Nat.pow_succ, ← Nat.div_div_eq_div_mul]
  generalize c / 2 ^ (D - (d + 1)) = x
  by_cases h1 : x % 2 = 1
  · simp [h1]; omega
  · have : x % 2 = 0 := by omega
    simp [this]; omega
theorem agree_iff {D c x : Nat} (hc : c < 2 ^ D) (hx : x < 2 ^ D) : ∀ d, d ≤ D → (agree (bitD D) c d x = true ↔ x / 2 ^ (D - d) = c / 2 ^ (D - d))
  | 0, _ => by simp [agree, Nat.div_eq_of_lt hc, Nat.div_eq_of_lt hx]
  | d + 1, h => by
    rw [agree, Bool.and_eq_true, agree_iff hc hx d (by omega), bit_step (c := x) (by omega), bit_step (c := c) (by omega), beq_iff_eq]
    constructor
    · rintro ⟨h1, h2⟩; rw [h1, h2]
    · intro h1
      cases hb : bitD D d x <;> cases hb2 : bitD D d c <;> simp [hb, hb2] at h1 ⊢ <;> omega
theorem agree_all {D c x : Nat} (hc : c < 2 ^ D) (hx : x < 2 ^ D) : agree (bitD D) c D x = (x == c) := by
  have h := agree_iff hc hx D (Nat.le_refl _)
  simp at h
  cases ha : agree (bitD D) c D x
  · rw [ha] at h
    simp at h
    exact (beq_eq_false_iff_ne.2 h).symm
  · exact (beq_iff_eq.2 (h.1 ha)).symm
/-- Rank, of symbols below 2^D. -/
theorem rank_bits {L : List Nat} {c i D : Nat} (hi : i ≤ L.length) (hc : c < 2 ^ D) (hL : ∀ x ∈ L, x < 2 ^ D) : pos (bitD D) L c D i - pos (bitD D) L c D 0 = ((L.take i).filter (· == c)).length :=
  pos_rank hi (fun x hx => agree_all hc (hL x hx))
/-- The i-th symbol's bits, read on its way down, are the symbol's. -/
def walkC (D : Nat) (L : List Nat) : Nat → Nat → Nat × Nat
  | 0, i => (i, 0)
  | d + 1, i => let r := walkC D L d i
    let b := bitD D d (((lv (bitD D) L d)[r.1]?).getD 0)
    (down (bitD D d) (lv (bitD D) L d) b r.1, 2 * r.2 + (if b then 1 else 0))
theorem walkC_eq {D : Nat} {L : List Nat} {i c : Nat} (h : L[i]? = some c) (hc : c < 2 ^ D) : ∀ d, d ≤ D → walkC D L d i = (pos (bitD D) L c d i, c / 2 ^ (D - d))
  | 0, _ => by simp [walkC, pos, Nat.div_eq_of_lt hc]
  | d + 1, hd => by
    have ih := walkC_eq h hc d (by omega)
    unfold walkC
    rw [ih]
    dsimp only
    rw [pos_at h d]
    dsimp only [Option.getD]
    rw [pos, bit_step (by omega)]
/-- The place of the one that a bit's place came from. -/
theorem count_step {g : Nat → Bool} {l : List Nat} {i c : Nat} (h : l[i]? = some c) (hg : g c = true) : ((l.take (i + 1)).filter g).length = ((l.take i).filter g).length + 1 := by
  have hi : i < l.length := (List.getElem?_eq_some_iff.1 h).1
  rw [List.take_succ_eq_append_getElem hi, List.filter_append, List.length_append]
  have := (List.getElem?_eq_some_iff.1 h).2
  rw [this, List.filter_cons, if_pos hg]
  rfl
end Lec.Wv

end
section
set_option linter.unusedVariables false
set_option linter.unusedSimpArgs false
namespace Lec
open Go Go.RowKit
def bitS (s c : Nat) : Bool := c / 2 ^ s % 2 == 1
theorem setCell_grown (w : World) (p o : Nat) (v : Value) : w.grownBy (w.setCell ⟨p, o, none⟩ v) (some p) :=
  ⟨rfl, rfl, rfl, by simp [World.setCell], fun k _ hne => Below.heap_setCell w ⟨p, o, none⟩ v k (fun e => hne (by rw [e]))⟩
/-- Two rows whose numbers differ lie apart. -/
theorem rows_apart {w : World} {base T n m : Nat} {v u : Value} {Z O : List Nat} {f : Nat → Bool} (hv : w.ownsRow base T 1 v n (natsC Z)) (hu : w.ownsRow base T 1 u m (natsC O)) (hZ : ∀ c ∈ Z, f c = false) (hO : ∀ c ∈ O, f c = true) (nz : Z = [] → v = .slice none 0 0) (no : O = [] → u = .slice none 0 0) : v.ownBlock = none ∨ v.ownBlock ≠ u.ownBlock := by
  cases hg : v.ownBlock with
  | none => exact .inl rfl
  | some g =>
    refine .inr (fun h => ?_)
    match Z, O, hv, hu, hZ, hO, nz, no with
    | [], _, _, _, _, _, nz, _ => rw [nz rfl] at hg; simp [Value.ownBlock] at hg
    | _ :: _, [], _, _, _, _, _, no => rw [no rfl] at h; simp [Value.ownBlock] at h
    | z :: Z, o :: O, hv, hu, hZ, hO, _, _ =>
      have h1 := hv.cells hg 0 (.int .i64 (z : Int)) rfl
      have h2 := hu.cells h.symm 0 (.int .i64 (o : Int)) rfl
      rw [h1] at h2
      have : (z : Int) = (o : Int) := by injection h2 with h3; injection h3
      have hzo : z = o := by omega
      have a := hZ z (by simp)
      have b := hO o (by simp)
      rw [hzo, b] at a
      cases a
end Lec
namespace Go.Proofs.Ytjpcfpffbicpnaa
open Go.RowKit Lec
theorem and1_i64 {x s : Nat} (h : x < 9223372036854775808) : bits BinOp.and IntKind.i64 ((x : Int) / 2 ^ s) 1 = ((x / 2 ^ s % 2 : Nat) : Int) := by
  have e : (x : Int) / 2 ^ s = ((x / 2 ^ s : Nat) : Int) := by simp
  rw [e, show (1 : Int) = ((1 : Nat) : Int) from rfl, i64_and_nat _ _ (Nat.lt_of_le_of_lt (Nat.div_le_self _ _) h) (by decide), Nat.and_two_pow_sub_one_eq_mod _ 1]
theorem ne_of_apart {v u : Value} (h : ∀ k, v.ownBlock = some k → u.ownBlock ≠ some k) : v.ownBlock = none ∨ v.ownBlock ≠ u.ownBlock := by
  cases hv : v.ownBlock with
  | none => exact .inl rfl
  | some g => exact .inr (fun e => h g hv e.symm)
theorem info_intW : (Try.prog.info? 3).map (fun i => (i.zero, i.size, i.bytes)) = some (some (.int .i64 0), 1, 8) := by kernel_rfl
theorem info_boolW : (Try.prog.info? 4).map (fun i => (i.zero, i.size, i.bytes)) = some (some (.bool false), 1, 1) := by kernel_rfl
/-- A level, new in memory, and the list in the order of the one below. -/
def SplitPost (w : World) (s : Nat) (L : List Nat) (e : Ending) (w' : World) : Prop :=
  ∃ p lo v, e = .returned (.tuple #[.agg #[.pointer (some ⟨p, 0, none⟩), .int .i64 (Wv.nought (bitS s) L : Int)], v]) ∧ w.heap.size ≤ lo ∧ lo ≤ p ∧ p < w'.heap.size ∧ VecT w' p (L.map (bitS s)) lo ∧
    w'.ownsRow w.heap.size 3 1 v L.length (natsC (Wv.part (bitS s) L)) ∧ Below w.heap.size w w'
set_option maxRecDepth 100000 in
set_option maxHeartbeats 4000000 in
theorem split_any (w : World) (A : Option Addr) (c s : Nat) (L : List Nat) (hs : s ≤ 8) (hm : L.length ≤ 131072) (hL : ∀ x ∈ L, x < 512) (hr : Rds w A (natsC L)) :
    Calls Try.prog 92 #[.slice A L.length c, .int .i64 (s : Int)] w (SplitPost w s L) := by
  have HR := Lib.hid hr
  have HL := Lib.hid hL
  clear hr hL
  go_enter Try.func92, Try.ntmps92
  go_wp2_with fail
  obtain ⟨w0, hw0⟩ : ∃ w0, w0 = w.alloc (.cells #[.pointer none, .int .i64 0] 154) := ⟨_, rfl⟩
  have HX0 : Hid (Below w.heap.size w w0) := by rw [hw0]; exact (Below.refl _ _).alloc (Nat.le_refl _) _
  have HP0 : Hid (Blk w0 w.heap.size 154 [.pointer none, .int .i64 0]) := by rw [hw0]; exact Blk.new w _ _
  rw [← hw0]
  have hws : w0.heap.size = w.heap.size + 1 := by rw [hw0]; simp
  have HRW := Lib.hid (HR.out.ext HX0.out (Nat.le_refl _))
  clear hw0 HR
  have HWS := Lib.hid hws
  clear hws
  go_loopw [6, 7, 8, 15] (fun v6 v7 v8 i wx => ∃ k : Nat, i = .int .i64 (k : Int) ∧ k ≤ L.length ∧
      Hid (wx.ownsRow (w.heap.size + 1) 4 1 v6 k (boolsC ((L.take k).map (bitS s)))) ∧
      Hid (wx.ownsRow (w.heap.size + 1) 3 1 v7 ((L.take k).filter (fun c => !bitS s c)).length (natsC ((L.take k).filter (fun c => !bitS s c)))) ∧
      Hid (wx.ownsRow (w.heap.size + 1) 3 1 v8 ((L.take k).filter (bitS s)).length (natsC ((L.take k).filter (bitS s)))) ∧
      Hid ((L.take k).filter (fun c => !bitS s c) = [] → v7 = .slice none 0 0) ∧ Hid ((L.take k).filter (bitS s) = [] → v8 = .slice none 0 0) ∧
      Hid (Below (w.heap.size + 1) w0 wx)) (fun _ _ _ i _ => L.length - (intOf i).toNat)
  case atStart => exact ⟨0, rfl, by omega, World.ownsRow_nil _ _ _ _, World.ownsRow_nil _ _ _ _, World.ownsRow_nil _ _ _ _, Lib.hid (fun _ => rfl), Lib.hid (fun _ => rfl), Below.refl _ _⟩
  case round =>
    obtain ⟨k, rfl, hk, H6, H7, H8, N7, N8, HB⟩ := hrel
    obtain ⟨v6, rfl⟩ : ∃ x, x = u6 := ⟨_, rfl⟩
    obtain ⟨v7, rfl⟩ : ∃ x, x = u7 := ⟨_, rfl⟩
    obtain ⟨v8, rfl⟩ : ∃ x, x = u8 := ⟨_, rfl⟩
    have HX : Hid (Below w.heap.size w wr) := HX0.out.trans (HB.out.mono (by omega))
    have hsz : w.heap.size + 1 ≤ wr.heap.size := by have := HB.out.size; have := HWS.out; omega
    by_cases h1 : k < L.length
    · have h1i : (k : Int) < (L.length : Int) := by omega
      obtain ⟨a, rfl, cc⟩ := (HRW.out.ext HB.out (by rw [HWS.out]; exact Nat.le_refl _)) k (.int .i64 (L[k] : Int)) (natsC_at (List.getElem?_eq_getElem h1))
      have hx := HL.out L[k] (List.getElem_mem h1)
      have T6 : Hid ((L.take (k + 1)).map (bitS s) = (L.take k).map (bitS s) ++ [bitS s L[k]]) := by show _ = _; rw [List.take_succ_eq_append_getElem h1]; simp only [List.map_append, List.map_cons, List.map_nil]
      have T7 : Hid ((L.take (k + 1)).filter (fun c => !bitS s c) = (L.take k).filter (fun c => !bitS s c) ++ (if bitS s L[k] then [] else [L[k]])) := by
        show _ = _; rw [List.take_succ_eq_append_getElem h1, List.filter_append, List.filter_cons]; cases bitS s L[k] <;> rfl
      have T8 : Hid ((L.take (k + 1)).filter (bitS s) = (L.take k).filter (bitS s) ++ (if bitS s L[k] then [L[k]] else [])) := by
        show _ = _; rw [List.take_succ_eq_append_getElem h1, List.filter_append, List.filter_cons]; cases bitS s L[k] <;> rfl
      have hap := rows_apart (f := bitS s) H7.out H8.out (fun c hc => by simpa using (List.mem_filter.1 hc).2) (fun c hc => (List.mem_filter.1 hc).2) N7.out N8.out
      have HAP := Lib.hid hap
      have hbe : bits .and .i64 ((L[k] : Int) / 2 ^ s) 1 = ((L[k] / 2 ^ s % 2 : Nat) : Int) := and1_i64 (by omega)
      have hbq : (((L[k] / 2 ^ s % 2 : Nat) : Int) == 1) = bitS s L[k] := by
        unfold bitS
        have : L[k] / 2 ^ s % 2 < 2 := Nat.mod_lt _ (by omega)
        generalize L[k] / 2 ^ s % 2 = m at *
        match m, this with
        | 0, _ => rfl
        | 1, _ => rfl
      have HAP2 : Hid (v8.ownBlock = none ∨ v8.ownBlock ≠ v7.ownBlock) := Lib.hid (by
        cases hg : v8.ownBlock with
        | none => exact .inl rfl
        | some g => exact .inr (fun e => by
            rcases hap with h | h
            · rw [h] at e; cases e
            · exact h (by rw [← e, hg])))
      clear hap
      generalize L[k] = x at *
      have hzl : ((L.take k).filter (fun c => !bitS s c)).length ≤ k := by have := (List.filter_sublist (l := L.take k) (p := fun c => !bitS s c)).length_le; rw [List.length_take] at this; omega
      have hol : ((L.take k).filter (bitS s)).length ≤ k := by have := (List.filter_sublist (l := L.take k) (p := bitS s)).length_le; rw [List.length_take] at this; omega
      generalize (L.take k).filter (fun c => !bitS s c) = Z at *
      generalize (L.take k).filter (bitS s) = O at *
      have hs0 : (0 : Int) ≤ (s : Int) := by omega
      cases hb : bitS s x with
      | true =>
        have HBT := Lib.hid hb
        rw [hb] at hbq T6 T7 T8
        simp only [if_true, Bool.false_eq_true, if_false] at T7 T8
        clear hb
        have hcast : (x : Int) / 2 ^ s % 2 = ((x / 2 ^ s % 2 : Nat) : Int) := by norm_cast
        have hbi := hbq
        rw [← hcast] at hbi
        clear hcast hbq
        go_wp2_with (first
        | (at_builtin; refine wp_app1 (w0 := wr) rfl rfl _ _ 57 rfl (w.heap.size + 1) 3 (.int .i64 0) 1 8 Try.underlying57 info_intW rfl (by decide) (by decide) _ O.length _ rfl H8.out rfl rfl (one_cell1 rfl) (by omega) hsz ?_
           intro vg w1 hown1 hg1 hb1
           have K6 := Lib.hid ((own_ext H6.out ((Below.refl wr.heap.size wr).alloc (Nat.le_refl _) (.cells #[.int .i64 (x : Int)] 3)) (Nat.le_refl _)).kept hg1 (ne_of_apart (own_apart H6.out H8.out (by decide))))
           have KO := Lib.hid ((own_ext H7.out ((Below.refl wr.heap.size wr).alloc (Nat.le_refl _) (.cells #[.int .i64 (x : Int)] 3)) (Nat.le_refl _)).kept hg1 HAP.out)
           have KG := Lib.hid hown1
           have HB1 := Lib.hid (HB.out.trans hb1)
           have hs1 : w.heap.size + 1 ≤ w1.heap.size := Nat.le_trans hsz hb1.size
           clear hown1 hg1)
        | (at_builtin; refine wp_app1 (w0 := w1) rfl rfl _ _ 131 rfl (w.heap.size + 1) 4 (.bool false) 1 1 Try.underlying131 info_boolW rfl (by decide) (by decide) _ k _ rfl K6.out rfl rfl (one_cell1 rfl) (by omega) hs1 ?_
           intro v6' w2 hown2 hg2 hb2
           have QO := Lib.hid ((own_ext KO.out ((Below.refl w1.heap.size w1).alloc (Nat.le_refl _) (.cells #[.bool true] 4)) (Nat.le_refl _)).kept hg2 (ne_of_apart (own_apart KO.out K6.out (by decide))))
           have QG := Lib.hid ((own_ext KG.out ((Below.refl w1.heap.size w1).alloc (Nat.le_refl _) (.cells #[.bool true] 4)) (Nat.le_refl _)).kept hg2 (ne_of_apart (own_apart KG.out K6.out (by decide))))
           have Q6 := Lib.hid hown2
           clear hown2 hg2))
        go_roundw
        case rel =>
          refine ⟨k + 1, by go_num, by omega, ?_, ?_, ?_, Lib.hid (fun e => N7.out (by rw [T7.out, List.append_nil] at e; exact e)), Lib.hid (fun e => by rw [T8.out] at e; simp at e), HB1.out.trans (hb2.mono (by omega))⟩
          · show World.ownsRow _ _ _ _ _ _ _
            rw [T6.out]; unfold boolsC; rw [List.map_append]; exact Q6.out
          · show World.ownsRow _ _ _ _ _ _ _
            rw [T7.out, List.append_nil]; exact QO.out
          · show World.ownsRow _ _ _ _ _ _ _
            rw [T8.out]; show World.ownsRow _ _ _ _ _ _ _; rw [List.length_append]; unfold natsC at QG ⊢; rw [List.map_append]; exact QG.out
        case measure => simp [intOf]; omega
      | false =>
        have HBT := Lib.hid hb
        rw [hb] at hbq T6 T7 T8
        simp only [if_true, Bool.false_eq_true, if_false] at T7 T8
        clear hb
        have hcast : (x : Int) / 2 ^ s % 2 = ((x / 2 ^ s % 2 : Nat) : Int) := by norm_cast
        have hbi := hbq
        rw [← hcast] at hbi
        have hbj : ¬ (x : Int) / 2 ^ s % 2 = 1 := by simpa using hbi
        have hbk : (x : Int) / 2 ^ s % 2 = 0 := by have := Int.emod_two_eq ((x : Int) / 2 ^ s); omega
        clear hcast hbq
        go_wp2_with (first
        | (at_builtin; refine wp_app1 (w0 := wr) rfl rfl _ _ 57 rfl (w.heap.size + 1) 3 (.int .i64 0) 1 8 Try.underlying57 info_intW rfl (by decide) (by decide) _ Z.length _ rfl H7.out rfl rfl (one_cell1 rfl) (by omega) hsz ?_
           intro vg w1 hown1 hg1 hb1
           have K6 := Lib.hid ((own_ext H6.out ((Below.refl wr.heap.size wr).alloc (Nat.le_refl _) (.cells #[.int .i64 (x : Int)] 3)) (Nat.le_refl _)).kept hg1 (ne_of_apart (own_apart H6.out H7.out (by decide))))
           have KO := Lib.hid ((own_ext H8.out ((Below.refl wr.heap.size wr).alloc (Nat.le_refl _) (.cells #[.int .i64 (x : Int)] 3)) (Nat.le_refl _)).kept hg1 HAP2.out)
           have KG := Lib.hid hown1
           have HB1 := Lib.hid (HB.out.trans hb1)
           have hs1 : w.heap.size + 1 ≤ w1.heap.size := Nat.le_trans hsz hb1.size
           clear hown1 hg1)
        | (at_builtin; refine wp_app1 (w0 := w1) rfl rfl _ _ 131 rfl (w.heap.size + 1) 4 (.bool false) 1 1 Try.underlying131 info_boolW rfl (by decide) (by decide) _ k _ rfl K6.out rfl rfl (one_cell1 rfl) (by omega) hs1 ?_
           intro v6' w2 hown2 hg2 hb2
           have QO := Lib.hid ((own_ext KO.out ((Below.refl w1.heap.size w1).alloc (Nat.le_refl _) (.cells #[.bool false] 4)) (Nat.le_refl _)).kept hg2 (ne_of_apart (own_apart KO.out K6.out (by decide))))
           have QG := Lib.hid ((own_ext KG.out ((Below.refl w1.heap.size w1).alloc (Nat.le_refl _) (.cells #[.bool false] 4)) (Nat.le_refl _)).kept hg2 (ne_of_apart (own_apart KG.out K6.out (by decide))))
           have Q6 := Lib.hid hown2
           clear hown2 hg2))
        go_roundw
        case rel =>
          refine ⟨k + 1, by go_num, by omega, ?_, ?_, ?_, Lib.hid (fun e => by rw [T7.out] at e; simp at e), Lib.hid (fun e => N8.out (by rw [T8.out, List.append_nil] at e; exact e)), HB1.out.trans (hb2.mono (by omega))⟩
          · show World.ownsRow _ _ _ _ _ _ _
            rw [T6.out]; unfold boolsC; rw [List.map_append]; exact Q6.out
          · show World.ownsRow _ _ _ _ _ _ _
            rw [T7.out]; show World.ownsRow _ _ _ _ _ _ _; rw [List.length_append]; unfold natsC at QG ⊢; rw [List.map_append]; exact QG.out
          · show World.ownsRow _ _ _ _ _ _ _
            rw [T8.out, List.append_nil]; exact QO.out
        case measure => simp [intOf]; omega
    · obtain rfl : k = L.length := by omega
      have h1i : ¬ (L.length : Int) < (L.length : Int) := by omega
      rw [List.take_length] at H6 H7 H8 N7 N8
      obtain ⟨A6, c6, e6, p1, p2, p3, p4, p5⟩ := own_rds H6.out
      subst e6
      have HBW := Lib.hid p4
      clear p1 p2 p3 p4 p5
      have HNV := Lib.hid (New_typed wr A6 L.length c6 (L.map (bitS s)) (by simp) (by omega) HBW.out)
      go_wp2_with fail
      refine HNV.out.mono ?_
      rintro e w1 ⟨p, rfl, hp1, hp2, hvec, hb1⟩
      have hlt7 := H7.out.lt
      obtain ⟨A8, c8, e8, p1, p2, p3, p4, p5⟩ := own_rds H8.out
      subst e8
      have HR8 := Lib.hid (Rds.ext p4 hb1 (Nat.le_refl _))
      have HN8 := Lib.hid p3
      have HO7 := Lib.hid (own_ext H7.out hb1 (Nat.le_refl _))
      have HLT := Lib.hid hlt7
      have HV := Lib.hid hvec
      have HX1 : Hid (Below w.heap.size w w1) := HX.out.trans (hb1.mono HX.out.size)
      have hw1 : w.heap.size + 1 ≤ w1.heap.size := Nat.le_trans hsz hb1.size
      have HP1 : Hid (Blk w1 w.heap.size 154 [.pointer none, .int .i64 0]) := Lib.hid ((HP0.out.ext HB.out (by rw [HWS.out]; exact Nat.le_refl _)).ext hb1 (Nat.le_refl _))
      have hzl : (L.filter (fun c => !bitS s c)).length ≤ L.length := (List.filter_sublist (l := L) (p := fun c => !bitS s c)).length_le
      have hol : (L.filter (bitS s)).length ≤ L.length := (List.filter_sublist (l := L) (p := bitS s)).length_le
      have HPA : Hid (Wv.part (bitS s) L = L.filter (fun c => !bitS s c) ++ L.filter (bitS s)) := rfl
      have HNO : Hid (Wv.nought (bitS s) L = (L.filter (fun c => !bitS s c)).length) := rfl
      have HPL := Lib.hid (Wv.part_len (bitS s) L)
      clear p1 p2 p3 p4 p5 hvec hb1 hlt7 H6 H7 H8 N7 N8 HNV HBW
      obtain ⟨A7, c7, e7, p1, p2, p3, p4, p5⟩ := own_rds HO7.out
      subst e7
      clear p1 p2 p3 p4 p5
      generalize L.filter (fun c => !bitS s c) = Z at *
      generalize L.filter (bitS s) = O at *
      have z0 := HP1.out.cell (o := 0) rfl
      have z1 := HP1.out.cell (o := 1) rfl
      have y0 := HP1.out.froz 0
      have y1 := HP1.out.froz 1
      go_wp2_with (at_builtin; refine wp_app rfl _ _ 57 rfl (w.heap.size + 1) 3 (.int .i64 0) 1 8 Try.underlying57 info_intW rfl (by decide) (by decide) _ Z.length _ rfl HO7.out A8 O.length c8 (natsC O) rfl HN8.out (by simp [natsC]) HR8.out (by intro u hu; simp [natsC] at hu; obtain ⟨_, _, rfl⟩ := hu; rfl) (by omega) hw1 ?_
                   intro v9 w2 hown9 hg9
                   have hz0 : w2.cell? ⟨w.heap.size, 0, none⟩ = some (.pointer none) := hg9.cell z0 (fun h => by have := (HLT.out w.heap.size h.symm).1; omega)
                   have hz1 : w2.cell? ⟨w.heap.size, 1, none⟩ = some (.int .i64 0) := hg9.cell z1 (fun h => by have := (HLT.out w.heap.size h.symm).1; omega)
                   have hy0 : w2.frozen? ⟨w.heap.size, 0, none⟩ = false := by rw [World.frozen?_of_block (hg9.block w.heap.size (by omega) (fun h => by have := (HLT.out w.heap.size h.symm).1; omega))]; exact y0
                   have hy1 : w2.frozen? ⟨w.heap.size, 1, none⟩ = false := by rw [World.frozen?_of_block (hg9.block w.heap.size (by omega) (fun h => by have := (HLT.out w.heap.size h.symm).1; omega))]; exact y1
                   clear z0 z1 y0 y1)
      have HZ9 : Hid (w.heap.size < w2.heap.size) := Lib.hid (Nat.lt_of_lt_of_le (by omega : w.heap.size < w1.heap.size) hg9.size)
      have hsp : Value.ownBlock (.slice A7 Z.length c7) = none ∨ True := .inr trivial
      have HV2 := Lib.hid (HV.out.grown hg9 (fun g h => by have := (HLT.out g h).2; exact this))
      have HX2 : Hid (Below w.heap.size w w2) := HX1.out.grown hg9 (by omega) (fun g h => by have := (HLT.out g h).1; omega)
      have HO9 := Lib.hid hown9
      have hp3 : p < w2.heap.size := Nat.lt_of_lt_of_le hp2 hg9.size
      obtain ⟨A9, c9, e9, q1, q2, q3, q4, q5⟩ := own_rds hown9
      subst e9
      refine bodyPost_ret (v := .tuple #[.agg #[.pointer (some ⟨p, 0, none⟩), .int .i64 (Z.length : Int)], .slice A9 (Z.length + O.length) c9]) (by simp [results, Try.results92, go_sem, *]) rfl ?_
      show SplitPost w s L _ _
      refine ⟨p, wr.heap.size, _, by rw [HNO.out], by omega, hp1, by simpa using hp3, ?_, ?_, ?_⟩
      · exact (HV2.out.grown (setCell_grown _ _ _ _) (fun g h => by cases h; omega)).grown (setCell_grown _ _ _ _) (fun g h => by cases h; omega)
      · have hlen : Z.length + O.length = L.length := by have := HPL.out; rw [HPA.out, List.length_append] at this; exact this
        rw [HPA.out, ← hlen]
        have hne : (Value.slice A9 (Z.length + O.length) c9).ownBlock ≠ some w.heap.size := fun h => by have := (HO9.out.lt _ h).1; omega
        have h1 := ownsRow_setCell_other HO9.out (a := ⟨w.heap.size, 0, none⟩) hne (.pointer (some ⟨p, 0, none⟩))
        have h2 := ownsRow_setCell_other h1 (a := ⟨w.heap.size, 1, none⟩) hne (.int .i64 (Z.length : Int))
        have h3 := own_lower h2 (base' := w.heap.size) (by omega)
        unfold natsC at h3 ⊢
        rw [List.map_append]
        exact h3
      · exact (HX2.out.setCell (Nat.le_refl _) _).setCell (Nat.le_refl _) _
end Go.Proofs.Ytjpcfpffbicpnaa

end
section
set_option linter.unusedVariables false
set_option linter.unusedSimpArgs false
namespace Lec
open Go Go.RowKit
theorem rank_ones (f : Nat → Bool) (l : List Nat) (i : Nat) : rankB (l.map f) i = Wv.ones f l i := by
  unfold rankB Wv.ones
  rw [← List.map_take]
  induction l.take i with
  | nil => rfl
  | cons c m ih => cases h : f c <;> simp [h, ih]
/-- A level: its vector, how many of it are 0. -/
def levV (p : Nat) (f : Nat → Bool) (l : List Nat) : Value := .agg #[.pointer (some ⟨p, 0, none⟩), .int .i64 (Wv.nought f l : Int)]
end Lec
namespace Go.Proofs.Ytjpcfpffbicpnaa
open Go.RowKit Lec
theorem wones_any (w : World) (p : Nat) (f : Nat → Bool) (l : List Nat) (hv : Vec w p (l.map f)) (hm : l.length ≤ 1048576) (i : Nat) (hi : i ≤ l.length) :
    Calls Try.prog 120 #[levV p f l, .int .i64 (i : Int)] w fun e w' => e = .returned (.int .i64 (Wv.ones f l i : Int)) ∧ Below w.heap.size w w' := by
  unfold levV
  obtain ⟨n, hn⟩ : ∃ n, n = Wv.nought f l := ⟨_, rfl⟩
  rw [← hn]
  have hb0 : Below w.heap.size w (w.alloc (.cells #[.pointer (some ⟨p, 0, none⟩), .int .i64 (n : Int)] 154)) := (Below.refl _ _).alloc (Nat.le_refl _) _
  have HRK := Lib.hid (Rank_in (w.alloc (.cells #[.pointer (some ⟨p, 0, none⟩), .int .i64 (n : Int)] 154)) p (l.map f) (hv.ext hb0 (Nat.le_refl _)) (by rw [List.length_map]; exact hm) i (by rw [List.length_map]; exact hi))
  rw [rank_ones] at HRK
  have HB := Lib.hid hb0
  clear hv hn hb0
  go_enter Try.func120, Try.ntmps120
  go_wp2_with fail
  refine HRK.out.mono ?_
  rintro e w1 ⟨rfl, q, rfl⟩
  have HX : Hid (Below w.heap.size w ((w.alloc (.cells #[.pointer (some ⟨p, 0, none⟩), .int .i64 (n : Int)] 154)).drewN q)) := HB.out.trans ((drawn_below _ q).mono HB.out.size)
  go_wp2
  go_ret
  exact ⟨rfl, HX.out⟩
theorem ones_le (f : Nat → Bool) (l : List Nat) (i : Nat) : Wv.ones f l i ≤ i ∧ Wv.ones f l i ≤ l.length := by
  unfold Wv.ones
  have := (List.filter_sublist (l := l.take i) (p := f)).length_le
  rw [List.length_take] at this
  omega
set_option maxRecDepth 100000 in
theorem down_any (w : World) (p : Nat) (f : Nat → Bool) (l : List Nat) (hv : Vec w p (l.map f)) (hm : l.length ≤ 1048576) (b : Bool) (i : Nat) (hi : i ≤ l.length) :
    Calls Try.prog 97 #[levV p f l, .bool b, .int .i64 (i : Int)] w fun e w' => e = .returned (.int .i64 (Wv.down f l b i : Int)) ∧ Below w.heap.size w w' := by
  have hon : ∀ wz, Below w.heap.size w wz → Calls Try.prog 120 #[levV p f l, .int .i64 (i : Int)] wz fun e w' => e = .returned (.int .i64 (Wv.ones f l i : Int)) ∧ Below wz.heap.size wz w' := fun wz h => wones_any wz p f l (hv.ext h (Nat.le_refl _)) hm i hi
  have hle := ones_le f l i
  have hnl : Wv.nought f l ≤ l.length := (List.filter_sublist (l := l) (p := fun c => !f c)).length_le
  have HDO : Hid (Wv.down f l b i = if b then Wv.nought f l + Wv.ones f l i else i - Wv.ones f l i) := rfl
  unfold levV at *
  have HON := Lib.hid hon
  clear hv hon
  generalize Wv.nought f l = n at *
  generalize Wv.ones f l i = m at *
  obtain ⟨r, hr⟩ : ∃ r, r = Wv.down f l b i := ⟨_, rfl⟩
  rw [← hr] at HDO ⊢
  clear hr
  go_enter Try.func97, Try.ntmps97
  go_upto_region 1 with (fail)
  obtain ⟨w0, hw0⟩ : ∃ w0, w0 = w.alloc (.cells #[.pointer (some ⟨p, 0, none⟩), .int .i64 (n : Int)] 154) := ⟨_, rfl⟩
  have HB : Hid (Below w.heap.size w w0) := by rw [hw0]; exact (Below.refl _ _).alloc (Nat.le_refl _) _
  have HP : Hid (Blk w0 w.heap.size 154 [.pointer (some ⟨p, 0, none⟩), .int .i64 (n : Int)]) := by rw [hw0]; exact Blk.new w _ _
  rw [← hw0]
  clear hw0
  have c0 := HP.out.cell (o := 0) rfl
  have c1 := HP.out.cell (o := 1) rfl
  cases b with
  | true =>
    have hd : Below w.heap.size w w0.drew := (HB.out.trans ((drawn_below w0 1).mono HB.out.size))
    go_upto_region 2 with (fail)
    go_region_held3 (fun w' => w'.cell? ⟨w.heap.size, 0, none⟩ = some (.pointer (some ⟨p, 0, none⟩)) ∧ w'.cell? ⟨w.heap.size, 1, none⟩ = some (.int .i64 (n : Int))) (first | (with_reducible exact ⟨c0, c1⟩) | go_keep)
      (first | (go_at_call 120; with_reducible refine (HON.out w0.drew hd).mono ?_
                rintro e w1 ⟨rfl, hb⟩
                have HB1 : Hid (Below w.heap.size w w1) := hd.trans (hb.mono hd.size)
                have HP1 := Lib.hid ((show Blk w0.drew _ _ _ from HP.out.drew 1).ext hb (Nat.le_refl _))
                clear c0 c1 hb
                have c0 := HP1.out.cell (o := 0) rfl
                have c1 := HP1.out.cell (o := 1) rfl))
    have hre : (r : Int) = (n : Int) + (m : Int) := by have := HDO.out; simp at this; omega
    have hw : IntKind.i64.wrap ((n : Int) + (m : Int)) = (n : Int) + (m : Int) := wrap_id (by omega)
    go_wp2
    go_ret
    exact ⟨by rw [hre]; show Ending.returned (.int .i64 (IntKind.i64.wrap ((n : Int) + (m : Int)))) = _; rw [hw], HB1.out⟩
  | false =>
    go_wp2_with fail
    refine (HON.out w0 HB.out).mono ?_
    rintro e w1 ⟨rfl, hb⟩
    have HB1 : Hid (Below w.heap.size w w1) := HB.out.trans (hb.mono HB.out.size)
    have hre : (r : Int) = (i : Int) - (m : Int) := by have := HDO.out; simp at this; omega
    have hw : IntKind.i64.wrap ((i : Int) - (m : Int)) = (i : Int) - (m : Int) := wrap_id (by omega)
    clear c0 c1 hb
    go_wp2
    go_ret
    exact ⟨by rw [hre]; rfl, HB1.out⟩
end Go.Proofs.Ytjpcfpffbicpnaa

end
section
set_option linter.unusedVariables false
set_option linter.unusedSimpArgs false
namespace Lec.Wv
/-- How many are below d; how many are c. -/
def less (L : List Nat) (d : Nat) : Nat := (L.filter (fun x => decide (x < d))).length
def eqs (L : List Nat) (c : Nat) : Nat := (L.filter (· == c)).length
theorem less_zero (L : List Nat) : less L 0 = 0 := by unfold less; simp
theorem less_succ (d : Nat) : ∀ L : List Nat, less L (d + 1) = less L d + eqs L d
  | [] => rfl
  | x :: L => by
    have ih := less_succ d L
    unfold less eqs at *
    by_cases h1 : x < d
    · have : (x == d) = false := by simp; omega
      simp [h1, this, show x < d + 1 by omega] at ih ⊢; omega
    · by_cases h2 : x = d
      · subst h2; simp at ih ⊢; omega
      · have h3 : (x == d) = false := by simpa using h2
        have h4 : ¬ x < d + 1 := by omega
        simp [h1, h3, h4] at ih ⊢; omega
theorem less_le (L : List Nat) (d : Nat) : less L d ≤ L.length := List.length_filter_le _ _
theorem eqs_le (L : List Nat) (c : Nat) : eqs L c ≤ L.length := List.length_filter_le _ _
theorem less_all {L : List Nat} {d : Nat} (h : ∀ x ∈ L, x < d) : less L d = L.length := by
  unfold less
  rw [List.filter_eq_self.2 (fun x hx => by simpa using h x hx)]
theorem eqs_snoc (L : List Nat) (x c : Nat) : eqs (L ++ [x]) c = eqs L c + (if x = c then 1 else 0) := by
  unfold eqs
  rw [List.filter_append, List.length_append]
  by_cases h : x = c
  · subst h; simp
  · have : (x == c) = false := by simpa using h
    simp [this, h]
def G0 (L : List Nat) (k d : Nat) : Nat := if d = 0 then 0 else eqs (L.take k) (d - 1)
def G1 (L : List Nat) (k d : Nat) : Nat := if d ≤ k then less L d else eqs L (d - 1)
theorem G0_next {L : List Nat} {k x : Nat} (h : L[k]? = some x) (d : Nat) : G0 L (k + 1) d = if x + 1 = d then G0 L k d + 1 else G0 L k d := by
  have hk : k < L.length := (List.getElem?_eq_some_iff.1 h).1
  have hx : L[k] = x := (List.getElem?_eq_some_iff.1 h).2
  unfold G0
  by_cases e : d = 0
  · rw [if_pos e, if_pos e, if_neg (by omega)]
  · rw [if_neg e, if_neg e, List.take_succ_eq_append_getElem hk, hx, eqs_snoc]
    by_cases e2 : x + 1 = d
    · rw [if_pos e2, if_pos (by omega)]
    · rw [if_neg e2, if_neg (by omega)]; rfl
theorem G01 (L : List Nat) (d : Nat) : G0 L L.length d = G1 L 0 d := by
  unfold G0 G1
  rw [List.take_length]
  by_cases e : d = 0
  · rw [if_pos e, if_pos (by omega), e, less_zero]
  · rw [if_neg e, if_neg (by omega)]
theorem G1_next (L : List Nat) (k d : Nat) : G1 L (k + 1) d = if k + 1 = d then G1 L k d + G1 L k k else G1 L k d := by
  unfold G1
  by_cases e : k + 1 = d
  · subst e
    rw [if_pos (by omega), if_pos rfl, if_neg (by omega), if_pos (Nat.le_refl _), less_succ, Nat.add_comm]
    rfl
  · rw [if_neg e]
    by_cases e2 : d ≤ k
    · rw [if_pos (by omega), if_pos e2]
    · rw [if_neg (by omega), if_neg e2]
theorem G0_le (L : List Nat) (k d : Nat) : G0 L k d ≤ L.length := by
  unfold G0
  split
  · omega
  · have := eqs_le (L.take k) (d - 1); rw [List.length_take] at this; omega
theorem G1_le (L : List Nat) (k d : Nat) : G1 L k d ≤ L.length := by
  unfold G1
  split
  · exact less_le _ _
  · exact eqs_le _ _
end Lec.Wv
namespace Lec
open Go Go.RowKit
/-- The levels' cells. -/
def lvlC (D : Nat) (L : List Nat) (ps : Nat → Nat) (d : Nat) : List Value := [.pointer (some ⟨ps d, 0, none⟩), .int .i64 (Wv.nought (Wv.bitD D d) (Wv.lv (Wv.bitD D) L d) : Int)]
def lvlsC (D : Nat) (L : List Nat) (ps : Nat → Nat) (n : Nat) : List Value := (List.range n).flatMap (lvlC D L ps)
theorem lvlsC_len (D : Nat) (L : List Nat) (ps : Nat → Nat) : ∀ n, (lvlsC D L ps n).length = n * 2
  | 0 => rfl
  | n + 1 => by
    have := lvlsC_len D L ps n
    unfold lvlsC at *
    rw [List.range_succ, List.flatMap_append, List.length_append, this]
    simp [lvlC]; omega
theorem lvlsC_succ (D : Nat) (L : List Nat) (ps : Nat → Nat) (n : Nat) : lvlsC D L ps (n + 1) = lvlsC D L ps n ++ lvlC D L ps n := by
  unfold lvlsC
  rw [List.range_succ, List.flatMap_append]; simp
theorem lvlsC_at (D : Nat) (L : List Nat) (ps : Nat → Nat) (n d : Nat) (hd : d < n) (o : Nat) (ho : o < 2) : (lvlsC D L ps n)[d * 2 + o]? = (lvlC D L ps d)[o]? := by
  induction n with
  | zero => omega
  | succ n ih =>
    rw [lvlsC_succ]
    by_cases h : d < n
    · rw [List.getElem?_append_left (by rw [lvlsC_len]; omega)]; exact ih h
    · obtain rfl : d = n := by omega
      rw [List.getElem?_append_right (by rw [lvlsC_len]; omega), lvlsC_len]
      congr 1; omega
theorem lvlsC_congr (D : Nat) (L : List Nat) (ps qs : Nat → Nat) (n : Nat) (h : ∀ d, d < n → ps d = qs d) : lvlsC D L ps n = lvlsC D L qs n := by
  induction n with
  | zero => rfl
  | succ n ih => rw [lvlsC_succ, lvlsC_succ, ih (fun d hd => h d (by omega))]; unfold lvlC; rw [h n (by omega)]
/-- Vectors' bits of a level. -/
abbrev lvB (D : Nat) (L : List Nat) (d : Nat) : List Bool := (Wv.lv (Wv.bitD D) L d).map (Wv.bitD D d)
/-- A tree that is only read; its blocks lie from lo on. -/
structure TreeN (w : World) (p k D : Nat) (L : List Nat) (lo : Nat) : Prop where
  out : ∃ A c B c' ps, w.cell? ⟨p, 0, none⟩ = some (.slice A D c) ∧ w.cell? ⟨p, 1, none⟩ = some (.slice B (k + 1) c') ∧ w.cell? ⟨p, 2, none⟩ = some (.int .i64 (L.length : Int)) ∧
    Rds w A (lvlsC D L ps D) ∧ Rds w B (natsC ((List.range (k + 1)).map (Wv.less L))) ∧ (∀ d, d < D → VecN w (ps d) (lvB D L d) lo) ∧ lo ≤ p ∧ (∀ a, A = some a → lo ≤ a.block) ∧ (∀ a, B = some a → lo ≤ a.block)
theorem TreeN.ext {w w' : World} {p k D lo B : Nat} {L : List Nat} (h : TreeN w p k D L lo) (hb : Below B w w') (hD : w.heap.size ≤ B) : TreeN w' p k D L lo := by
  obtain ⟨A, c, B, c', ps, h1, h2, h3, h4, h5, h6, h7⟩ := h.out
  exact ⟨A, c, B, c', ps, cell_ext hb hD h1, cell_ext hb hD h2, cell_ext hb hD h3, h4.ext hb hD, h5.ext hb hD, fun d hd => (h6 d hd).ext hb hD, h7⟩
theorem TreeN.grown {w w' : World} {p k D lo : Nat} {L : List Nat} {row : Option Nat} (h : TreeN w p k D L lo) (hg : w.grownBy w' row) (hr : ∀ k, row = some k → k < lo) : TreeN w' p k D L lo := by
  obtain ⟨A, c, B, c', ps, h1, h2, h3, h4, h5, h6, h7, h8, h9⟩ := h.out
  have hp : ∀ o, some (⟨p, o, none⟩ : Addr).block ≠ row := fun o e => by have : p < lo := hr _ e.symm; omega
  exact ⟨A, c, B, c', ps, hg.cell h1 (hp 0), hg.cell h2 (hp 1), hg.cell h3 (hp 2), rds_grown h4 hg (fun a ha e => by have := hr _ e.symm; have := h8 a ha; omega), rds_grown h5 hg (fun a ha e => by have := hr _ e.symm; have := h9 a ha; omega), fun d hd => (h6 d hd).grown hg hr, h7, h8, h9⟩
end Lec

end