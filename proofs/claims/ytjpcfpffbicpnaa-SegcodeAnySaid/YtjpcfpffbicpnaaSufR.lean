/- suffix.fresh: what stands in memory; its region of four makes. -/
import Derived.Test.YtjpcfpffbicpnaaSa
import Derived.Test.YtjpcfpffbicpnaaPackBas
import Derived.Test.YtjpcfpffbicpnaaProg
import Derived.Deep.DrawnRows
set_option linter.unusedVariables false
set_option linter.unusedSimpArgs false
namespace Go.Proofs.Ytjpcfpffbicpnaa
open Go.RowKit Lec
attribute [local go_sem ↓] Go.wp_at_zero Go.wp_at_succ

theorem info_int : (Try.prog.info? 3).map (fun i => (i.zero, i.size, i.bytes)) = some (some (.int .i64 0), 1, 8) := by kernel_rfl
theorem info_bool : (Try.prog.info? 4).map (fun i => (i.zero, i.size, i.bytes)) = some (some (.bool false), 1, 1) := by kernel_rfl
/-- A list by its places. -/
def Tab (xs : List Nat) (m : Nat) (f : Nat → Nat) : Prop := xs.length = m ∧ ∀ c, c < m → xs[c]? = some (f c)
theorem Tab.set {xs : List Nat} {m : Nat} {f : Nat → Nat} (h : Tab xs m f) (j v : Nat) (g : Nat → Nat) (hg : ∀ c, c < m → g c = if c = j then v else f c) : Tab (xs.set j v) m g := by
  refine ⟨by rw [List.length_set]; exact h.1, fun c hc => ?_⟩
  rw [List.getElem?_set, hg c hc]
  by_cases e : j = c
  · subst e; simp [h.1, hc]
  · rw [if_neg e, if_neg (fun k => e k.symm)]; exact h.2 c hc
theorem Tab.at {xs : List Nat} {m : Nat} {f : Nat → Nat} (h : Tab xs m f) {c v : Nat} (hc : c < m) (e : f c = v) : xs[c]? = some v := by rw [h.2 c hc, e]
theorem Tab.congr {xs : List Nat} {m : Nat} {f g : Nat → Nat} (h : Tab xs m f) (hg : ∀ c, c < m → g c = f c) : Tab xs m g := ⟨h.1, fun c hc => by rw [h.2 c hc, hg c hc]⟩

/-- The frame while it is being made; B: a bound of its blocks. -/
structure FreshW (w wx : World) (A : Option Addr) (n c K p g1 g2 g3 g5 B : Nat) (x1 x2 x3 : List Value) (v4 : Value) (x5 : List Value) : Prop where
  bp : Blk wx p 187 [.slice A n c, .slice (some ⟨g1, 0, none⟩) n n, .slice (some ⟨g2, 0, none⟩) (K + 1) (K + 1), .slice (some ⟨g3, 0, none⟩) (K + 1) (K + 1), v4, .slice (some ⟨g5, 0, none⟩) (n + 1) (n + 1)]
  b1 : Blk wx g1 4 x1
  b2 : Blk wx g2 3 x2
  b3 : Blk wx g3 3 x3
  b5 : Blk wx g5 3 x5
  hp : w.heap.size ≤ p ∧ p < B
  h1 : w.heap.size ≤ g1 ∧ g1 < B
  h2 : w.heap.size ≤ g2 ∧ g2 < B
  h3 : w.heap.size ≤ g3 ∧ g3 < B
  h5 : w.heap.size ≤ g5 ∧ g5 < B
  n23 : g2 ≠ g3
  n25 : g2 ≠ g5
  n35 : g3 ≠ g5
  bel : Below w.heap.size w wx
  hB : B ≤ wx.heap.size

section
variable {w wx : World} {A : Option Addr} {n c K p g1 g2 g3 g5 B : Nat} {x1 x2 x3 : List Value} {v4 : Value} {x5 : List Value}
theorem FreshW.drewN (h : FreshW w wx A n c K p g1 g2 g3 g5 B x1 x2 x3 v4 x5) (q : Nat) : FreshW w (wx.drewN q) A n c K p g1 g2 g3 g5 B x1 x2 x3 v4 x5 :=
  ⟨h.bp, h.b1, h.b2, h.b3, h.b5, h.hp, h.h1, h.h2, h.h3, h.h5, h.n23, h.n25, h.n35, h.bel.trans ((drawn_below wx q).mono h.bel.size), h.hB⟩
theorem FreshW.set1 (h : FreshW w wx A n c K p g1 g2 g3 g5 B x1 x2 x3 v4 x5) (i : Nat) (u : Value) : FreshW w (wx.setCell ⟨g1, i, none⟩ u) A n c K p g1 g2 g3 g5 B (x1.set i u) x2 x3 v4 x5 :=
  ⟨h.bp.far u (h.bp.one h.b1 (by decide)), h.b1.set i u, h.b2.far u (h.b2.one h.b1 (by decide)), h.b3.far u (h.b3.one h.b1 (by decide)), h.b5.far u (h.b5.one h.b1 (by decide)), h.hp, h.h1, h.h2, h.h3, h.h5, h.n23, h.n25, h.n35, h.bel.setCell h.h1.1 _, by simpa using h.hB⟩
theorem FreshW.set2 (h : FreshW w wx A n c K p g1 g2 g3 g5 B x1 x2 x3 v4 x5) (i : Nat) (u : Value) : FreshW w (wx.setCell ⟨g2, i, none⟩ u) A n c K p g1 g2 g3 g5 B x1 (x2.set i u) x3 v4 x5 :=
  ⟨h.bp.far u (h.bp.one h.b2 (by decide)), h.b1.far u (h.b1.one h.b2 (by decide)), h.b2.set i u, h.b3.far u (Ne.symm h.n23), h.b5.far u (Ne.symm h.n25), h.hp, h.h1, h.h2, h.h3, h.h5, h.n23, h.n25, h.n35, h.bel.setCell h.h2.1 _, by simpa using h.hB⟩
theorem FreshW.set3 (h : FreshW w wx A n c K p g1 g2 g3 g5 B x1 x2 x3 v4 x5) (i : Nat) (u : Value) : FreshW w (wx.setCell ⟨g3, i, none⟩ u) A n c K p g1 g2 g3 g5 B x1 x2 (x3.set i u) v4 x5 :=
  ⟨h.bp.far u (h.bp.one h.b3 (by decide)), h.b1.far u (h.b1.one h.b3 (by decide)), h.b2.far u h.n23, h.b3.set i u, h.b5.far u (Ne.symm h.n35), h.hp, h.h1, h.h2, h.h3, h.h5, h.n23, h.n25, h.n35, h.bel.setCell h.h3.1 _, by simpa using h.hB⟩
theorem FreshW.set5 (h : FreshW w wx A n c K p g1 g2 g3 g5 B x1 x2 x3 v4 x5) (i : Nat) (u : Value) : FreshW w (wx.setCell ⟨g5, i, none⟩ u) A n c K p g1 g2 g3 g5 B x1 x2 x3 v4 (x5.set i u) :=
  ⟨h.bp.far u (h.bp.one h.b5 (by decide)), h.b1.far u (h.b1.one h.b5 (by decide)), h.b2.far u h.n25, h.b3.far u h.n35, h.b5.set i u, h.hp, h.h1, h.h2, h.h3, h.h5, h.n23, h.n25, h.n35, h.bel.setCell h.h5.1 _, by simpa using h.hB⟩
theorem FreshW.set4 (h : FreshW w wx A n c K p g1 g2 g3 g5 B x1 x2 x3 v4 x5) (u : Value) : FreshW w (wx.setCell ⟨p, 4, none⟩ u) A n c K p g1 g2 g3 g5 B x1 x2 x3 u x5 :=
  ⟨h.bp.set 4 u, h.b1.far u (Ne.symm (h.bp.one h.b1 (by decide))), h.b2.far u (Ne.symm (h.bp.one h.b2 (by decide))), h.b3.far u (Ne.symm (h.bp.one h.b3 (by decide))), h.b5.far u (Ne.symm (h.bp.one h.b5 (by decide))), h.hp, h.h1, h.h2, h.h3, h.h5, h.n23, h.n25, h.n35, h.bel.setCell h.hp.1 _, by simpa using h.hB⟩
theorem FreshW.ext (h : FreshW w wx A n c K p g1 g2 g3 g5 B x1 x2 x3 v4 x5) {w' : World} (hb : Below B wx w') : FreshW w w' A n c K p g1 g2 g3 g5 B x1 x2 x3 v4 x5 :=
  ⟨h.bp.extlt hb h.hp.2, h.b1.extlt hb h.h1.2, h.b2.extlt hb h.h2.2, h.b3.extlt hb h.h3.2, h.b5.extlt hb h.h5.2, h.hp, h.h1, h.h2, h.h3, h.h5, h.n23, h.n25, h.n35, h.bel.trans (hb.mono (by have := h.hp; omega)), Nat.le_trans h.hB hb.size⟩
end

/-- The kinds of all places. -/
def smL (s : List Nat) : List Bool := (List.range s.length).map (Sa.sm s)
theorem smL_at (s : List Nat) (i : Nat) (h : i < s.length) : (smL s)[i]? = some (Sa.sm s i) := by unfold smL; rw [List.getElem?_map, List.getElem?_range h]; rfl
/-- How many smaller ones of the symbol below c are among the first m; how many larger ones of c. -/
def upS (s : List Nat) (m c : Nat) : Nat := if c = 0 then 0 else Sa.cnt m (fun i => Sa.sy s i == c - 1 && Sa.sm s i)
def upL (s : List Nat) (m c : Nat) : Nat := Sa.cnt m (fun i => Sa.sy s i == c && !Sa.sm s i)
theorem upS_le (s : List Nat) (m c : Nat) : upS s m c ≤ m := by
  unfold upS; split
  · omega
  · exact Sa.cnt_le _ _
theorem upL_le (s : List Nat) (m c : Nat) : upL s m c ≤ m := Sa.cnt_le _ _
theorem upS_succ (s : List Nat) (m c : Nat) : upS s (m + 1) c = if c = Sa.sy s m + 1 ∧ Sa.sm s m = true then upS s m c + 1 else upS s m c := by
  unfold upS
  by_cases h : c = 0
  · subst h; simp
  · rw [if_neg h, if_neg h, Sa.cnt_succ]
    by_cases h2 : c = Sa.sy s m + 1
    · subst h2; cases h3 : Sa.sm s m <;> simp
    · rw [if_neg (fun k => h2 k.1), beq_eq_false_iff_ne.2 (show Sa.sy s m ≠ c - 1 by omega)]; rfl
theorem upL_succ (s : List Nat) (m c : Nat) : upL s (m + 1) c = if c = Sa.sy s m ∧ Sa.sm s m = false then upL s m c + 1 else upL s m c := by
  unfold upL
  rw [Sa.cnt_succ]
  by_cases h2 : c = Sa.sy s m
  · subst h2; cases h3 : Sa.sm s m <;> simp
  · rw [if_neg (fun k => h2 k.1), beq_eq_false_iff_ne.2 (show Sa.sy s m ≠ c by omega)]; rfl
/-- The number of a place: of one of these, or -1. -/
def numb (s : List Nat) (i : Nat) : Int := if Sa.lmsB s i then (Sa.idx s i : Int) else -1

/-- A frame that is only read. -/
structure Frm (w : World) (p : Nat) (s : List Nat) (K : Nat) : Prop where
  out : ∃ (A : Option Addr) (c : Nat) (a1 a2 a3 a4 : Option Addr) (c4 : Nat) (a5 : Option Addr) (xs3 : List Nat),
    w.cell? ⟨p, 0, none⟩ = some (.slice A s.length c) ∧ w.cell? ⟨p, 1, none⟩ = some (.slice a1 s.length s.length) ∧ w.cell? ⟨p, 2, none⟩ = some (.slice a2 (K + 1) (K + 1)) ∧ w.cell? ⟨p, 3, none⟩ = some (.slice a3 (K + 1) (K + 1)) ∧
    w.cell? ⟨p, 4, none⟩ = some (.slice a4 (Sa.lmsL s).length c4) ∧ w.cell? ⟨p, 5, none⟩ = some (.slice a5 (s.length + 1) (s.length + 1)) ∧
    Rds w A (natsC s) ∧ Rds w a1 (boolsC (smL s)) ∧ Rds w a2 (natsC ((List.range (K + 1)).map (Sa.lo s))) ∧ Rds w a3 (natsC xs3) ∧ Rds w a4 (natsC (Sa.lmsL s)) ∧ Rds w a5 (intsV ((List.range (s.length + 1)).map (numb s))) ∧
    xs3.length = K + 1 ∧ (∀ j, j < K → xs3[j]? = some (Sa.mid s j))
theorem Frm.ext {w w' : World} {p : Nat} {s : List Nat} {K B : Nat} (h : Frm w p s K) (hb : Below B w w') (hB : w.heap.size ≤ B) : Frm w' p s K := by
  obtain ⟨A, c, a1, a2, a3, a4, c4, a5, xs3, h0, h1, h2, h3, h4, h5, r0, r1, r2, r3, r4, r5, h6, h7⟩ := h.out
  exact ⟨A, c, a1, a2, a3, a4, c4, a5, xs3, cell_ext hb hB h0, cell_ext hb hB h1, cell_ext hb hB h2, cell_ext hb hB h3, cell_ext hb hB h4, cell_ext hb hB h5, r0.ext hb hB, r1.ext hb hB, r2.ext hb hB, r3.ext hb hB, r4.ext hb hB, r5.ext hb hB, h6, h7⟩
theorem tab_eq {xs : List Nat} {m : Nat} {f : Nat → Nat} (h : Tab xs m f) : xs = (List.range m).map f := List.ext_getElem? (fun j => by
  by_cases hj : j < m
  · rw [h.2 j hj, List.getElem?_map, List.getElem?_range hj]; rfl
  · rw [List.getElem?_eq_none (by rw [h.1]; omega), List.getElem?_eq_none (by simp; omega)])
theorem map_eq {xs : List Int} {m : Nat} {f : Nat → Int} (hl : xs.length = m) (h : ∀ c, c < m → xs[c]? = some (f c)) : xs = (List.range m).map f := List.ext_getElem? (fun j => by
  by_cases hj : j < m
  · rw [h j hj, List.getElem?_map, List.getElem?_range hj]; rfl
  · rw [List.getElem?_eq_none (by rw [hl]; omega), List.getElem?_eq_none (by simp; omega)])
/-- Where this points to are no pointers to frames. -/
def Far (w : World) (A : Option Addr) : Prop := ∀ a, A = some a → ∃ cs T fr, w.heap[a.block]? = some (.cells cs T fr) ∧ T ≠ 182
theorem Far.grown {w w' : World} {A : Option Addr} {row : Option Nat} (h : Far w A) (hg : w.grownBy w' row) (hr : ∀ k, row = some k → ∃ cs fr, w.heap[k]? = some (.cells cs 182 fr)) : Far w' A ∧ ∀ a, A = some a → some a.block ≠ row := by
  have key : ∀ a, A = some a → some a.block ≠ row := fun a ha e => by
    obtain ⟨cs, T, fr, h1, h2⟩ := h a ha
    obtain ⟨cs', fr', h3⟩ := hr a.block e.symm
    rw [h1] at h3; injection h3 with h3; injection h3 with _ h4 _; exact h2 h4
  refine ⟨fun a ha => ?_, key⟩
  obtain ⟨cs, T, fr, h1, h2⟩ := h a ha
  exact ⟨cs, T, fr, (hg.block _ (Array.getElem?_eq_some_iff.1 h1).1 (key a ha)).trans h1, h2⟩
theorem Far.ext {w w' : World} {A : Option Addr} {B : Nat} (h : Far w A) (hb : Below B w w') (hB : w.heap.size ≤ B) : Far w' A := fun a ha => by
  obtain ⟨cs, T, fr, h1, h2⟩ := h a ha
  exact ⟨cs, T, fr, (hb.block _ (Nat.lt_of_lt_of_le (Array.getElem?_eq_some_iff.1 h1).1 hB)).trans h1, h2⟩
theorem Blk.farA {w : World} {g : Nat} {T : TypeId} {xs : List Value} (h : Blk w g T xs) (hT : T ≠ 182) : Far w (some ⟨g, 0, none⟩) := fun a ha => by
  obtain rfl := Option.some.inj ha
  exact ⟨_, T, _, h, hT⟩
theorem own_far {w : World} {base : Nat} {e : TypeId} {size n c : Nat} {A : Option Addr} {xs : List Value} (h : w.ownsRow base e size (.slice A n c) n xs) (hT : e ≠ 182) : Far w A := fun a ha => by
  subst ha
  rcases h.2 with ⟨h', _⟩ | ⟨g, cap, cur, h', _, hg, _⟩
  · simp at h'
  · simp only [Value.slice.injEq, Option.some.injEq] at h'
    obtain ⟨rfl, _⟩ := h'
    exact ⟨_, e, _, hg, hT⟩
/-- A frame's memory holds no pointers to frames. -/
structure FrmTy (w : World) (p : Nat) : Prop where
  self : Far w (some ⟨p, 0, none⟩)
  sl : ∀ (o n c : Nat) (A : Option Addr), w.cell? ⟨p, o, none⟩ = some (.slice A n c) → Far w A
theorem FrmTy.grown {w w' : World} {p : Nat} {s : List Nat} {K : Nat} {row : Option Nat} (h : FrmTy w p) (hf : Frm w p s K) (hg : w.grownBy w' row) (hr : ∀ k, row = some k → ∃ cs fr, w.heap[k]? = some (.cells cs 182 fr)) : FrmTy w' p ∧ Frm w' p s K := by
  have hp := (h.self.grown hg hr).2 _ rfl
  have hc : ∀ o v, w.cell? ⟨p, o, none⟩ = some v → w'.cell? ⟨p, o, none⟩ = some v := fun o v hv => hg.cell hv hp
  have hcl : p < w.heap.size := by obtain ⟨_, _, _, h1, _⟩ := h.self _ rfl; exact (Array.getElem?_eq_some_iff.1 h1).1
  have hc' : ∀ o, w'.cell? ⟨p, o, none⟩ = w.cell? ⟨p, o, none⟩ := fun o => World.cell?_of_block (hg.block p hcl hp)
  have rr : ∀ {A : Option Addr} {vs : List Value}, Far w A → Rds w A vs → Rds w' A vs := fun {A vs} hA hR i u hu => by
    obtain ⟨a, e, hcc⟩ := hR i u hu
    exact ⟨a, e, hg.cell hcc (by rw [add_block]; exact (hA.grown hg hr).2 a e)⟩
  refine ⟨⟨(h.self.grown hg hr).1, fun o n c A hA => ((h.sl o n c A (by rw [← hc' o]; exact hA)).grown hg hr).1⟩, ?_⟩
  obtain ⟨A, c, a1, a2, a3, a4, c4, a5, xs3, h0, h1, h2, h3, h4, h5, r0, r1, r2, r3, r4, r5, h6, h7⟩ := hf.out
  exact ⟨A, c, a1, a2, a3, a4, c4, a5, xs3, hc _ _ h0, hc _ _ h1, hc _ _ h2, hc _ _ h3, hc _ _ h4, hc _ _ h5, rr (h.sl _ _ _ _ h0) r0, rr (h.sl _ _ _ _ h1) r1, rr (h.sl _ _ _ _ h2) r2, rr (h.sl _ _ _ _ h3) r3, rr (h.sl _ _ _ _ h4) r4, rr (h.sl _ _ _ _ h5) r5, h6, h7⟩
theorem FrmTy.ext {w w' : World} {p B : Nat} (h : FrmTy w p) (hb : Below B w w') (hB : w.heap.size ≤ B) : FrmTy w' p := by
  have hcl : p < w.heap.size := by obtain ⟨_, _, _, h1, _⟩ := h.self _ rfl; exact (Array.getElem?_eq_some_iff.1 h1).1
  exact ⟨h.self.ext hb hB, fun o n c A hA => (h.sl o n c A (by rw [← hb.cell (p := ⟨p, o, none⟩) (Nat.lt_of_lt_of_le hcl hB)]; exact hA)).ext hb hB⟩
def FreshPost (w : World) (s : List Nat) (K : Nat) (e : Ending) (w' : World) : Prop :=
  ∃ p, e = .returned (.pointer (some ⟨p, 0, none⟩)) ∧ Frm w' p s K ∧ Below w.heap.size w w' ∧ FrmTy w' p

/-- A region of a function's text. -/
def regionAt (k : Nat) : Code → Option Code
  | .region i ops b => if i = k then some (.region i ops b) else none
  | .seq a b => match regionAt k a with
    | some c => some c
    | none => regionAt k b
  | .loop c => regionAt k c
  | .block _ c => regionAt k c
  | .scope c => regionAt k c
  | .cond _ a b => match regionAt k a with
    | some c => some c
    | none => regionAt k b
  | _ => none
noncomputable def freshReg : Code := (Try.f117.body.bind (regionAt 2)).getD .skip

set_option maxRecDepth 100000 in
set_option maxHeartbeats 4000000 in
theorem fresh_reg (w : World) (A : Option Addr) (n c K : Nat) (hm : n ≤ 131072) (hk : K ≤ 200000) (Q : Exit → Act → World → Prop)
    (hQ : ∀ (p g1 g2 g3 g5 B : Nat) (wx : World), FreshW w wx A n c K p g1 g2 g3 g5 B (List.replicate n (.bool false)) (List.replicate (K + 1) (.int .i64 0)) (List.replicate (K + 1) (.int .i64 0)) (.slice none 0 0) (List.replicate (n + 1) (.int .i64 0)) →
      Q .normal ⟨#[.slice A n c, .int .i64 (K : Int), undef, undef, .pointer none, .int .i64 (n : Int), .pointer (some ⟨p, 0, none⟩), undef, undef, undef, undef, undef, .slice A n c, .int .i64 (n : Int), .slice A n c, .int .i64 (n : Int), .slice (some ⟨g1, 0, none⟩) n n, .int .i64 (K : Int), .int .i64 ((K : Int) + 1), .slice (some ⟨g2, 0, none⟩) (K + 1) (K + 1), .int .i64 (K : Int), .int .i64 ((K : Int) + 1), .slice (some ⟨g3, 0, none⟩) (K + 1) (K + 1), .int .i64 (n : Int), .int .i64 ((n : Int) + 1), .slice (some ⟨g5, 0, none⟩) (n + 1) (n + 1), .agg #[.slice A n c, .slice (some ⟨g1, 0, none⟩) n n, .slice (some ⟨g2, 0, none⟩) (K + 1) (K + 1), .slice (some ⟨g3, 0, none⟩) (K + 1) (K + 1), .slice none 0 0, .slice (some ⟨g5, 0, none⟩) (n + 1) (n + 1)], .pointer (some ⟨p, 0, none⟩), undef, undef, undef, undef, undef, undef, undef, undef, undef, undef, undef, undef, undef, undef, undef, undef, undef, undef, undef, undef, undef, undef, undef, undef, undef, undef, undef, undef, undef, undef, undef, undef, undef, undef, undef, undef, undef, undef, undef, undef, undef, undef, undef, undef, undef, undef, undef, undef, undef, undef, undef, undef, undef, undef, undef, undef, undef, undef, undef, undef, undef, undef, undef, undef, undef, undef, undef, undef, undef, undef, undef, undef, undef, undef, undef, undef, undef, undef, undef, undef, undef, undef, undef, undef, undef, undef, undef, undef, undef, undef, undef, undef, undef, undef, undef, undef, undef, undef, undef, undef, undef, undef, undef, undef, undef, undef, undef, undef, undef, undef, undef, undef, undef, undef, undef, undef, undef, undef, undef, undef, undef, undef, undef, undef, undef, undef, undef, undef, undef, undef, undef, undef, undef, undef, undef, undef, undef, undef, undef, undef, undef, undef, undef, undef, undef, undef, undef, undef, undef, undef, undef, undef, undef, undef, undef, undef, undef, undef, undef, undef, undef, undef, undef, undef, undef, undef, undef, undef, undef, undef, undef, undef, undef, undef, undef, undef, undef, undef, undef, undef], []⟩ wx) :
    Code.wp Try.prog freshReg Q ⟨#[.slice A n c, .int .i64 (K : Int), undef, undef, .pointer none, .int .i64 (n : Int), undef, undef, undef, undef, undef, undef, .slice A n c, .int .i64 (n : Int), undef, undef, undef, undef, undef, undef, undef, undef, undef, undef, undef, undef, undef, undef, undef, undef, undef, undef, undef, undef, undef, undef, undef, undef, undef, undef, undef, undef, undef, undef, undef, undef, undef, undef, undef, undef, undef, undef, undef, undef, undef, undef, undef, undef, undef, undef, undef, undef, undef, undef, undef, undef, undef, undef, undef, undef, undef, undef, undef, undef, undef, undef, undef, undef, undef, undef, undef, undef, undef, undef, undef, undef, undef, undef, undef, undef, undef, undef, undef, undef, undef, undef, undef, undef, undef, undef, undef, undef, undef, undef, undef, undef, undef, undef, undef, undef, undef, undef, undef, undef, undef, undef, undef, undef, undef, undef, undef, undef, undef, undef, undef, undef, undef, undef, undef, undef, undef, undef, undef, undef, undef, undef, undef, undef, undef, undef, undef, undef, undef, undef, undef, undef, undef, undef, undef, undef, undef, undef, undef, undef, undef, undef, undef, undef, undef, undef, undef, undef, undef, undef, undef, undef, undef, undef, undef, undef, undef, undef, undef, undef, undef, undef, undef, undef, undef, undef, undef, undef, undef, undef, undef, undef, undef, undef, undef, undef, undef, undef, undef, undef, undef, undef, undef, undef, undef, undef, undef, undef, undef, undef, undef, undef, undef, undef], []⟩ w := by
  have hmb := mk_bools n (by omega)
  have hmi := mk_ints (K + 1) (by omega)
  have hmn := mk_ints (n + 1) (by omega)
  rw [show ((K + 1 : Nat) : Int) = (K : Int) + 1 by omega] at hmi
  rw [show ((n + 1 : Nat) : Int) = (n : Int) + 1 by omega] at hmn
  have hw1 : IntKind.i64.wrap ((K : Int) + 1) = (K : Int) + 1 := wrapI (by omega)
  have hw2 : IntKind.i64.wrap ((n : Int) + 1) = (n : Int) + 1 := wrapI (by omega)
  conv => arg 2; whnf
  go_region_held3 (fun w' => True) (first | trivial | go_keep) (fail)
  all_goals
    refine hQ _ _ _ _ _ _ _ ⟨Blk.drew1 (Blk.newL _ _ _ _ _ (by simp) rfl), Blk.drew1 ?_, Blk.drew1 ?_, Blk.drew1 ?_, Blk.drew1 ?_, ⟨by omega, by (simp) <;> omega⟩, ⟨by omega, by (simp) <;> omega⟩, ⟨by omega, by (simp) <;> omega⟩, ⟨by omega, by (simp) <;> omega⟩, ⟨by omega, by (simp) <;> omega⟩, by omega, by omega, by omega, Below.drew1 ?_, Nat.le_refl _⟩
    iterate 4 ((repeat (first | ((refine Blk.newL _ _ _ _ _ ?_ ?_) <;> (simp; done)) | refine Blk.allocA ?_ _)))
    repeat (first | exact Below.refl _ _ | refine Below.allocA ?_ (Nat.le_refl _) _)
end Go.Proofs.Ytjpcfpffbicpnaa
