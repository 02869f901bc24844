/- A region that draws its order, with four calls one behind the other and four new blocks among them: one step each, whatever the order. -/
import Derived.Test.YtdbpgcaoakoojaaBlk
import Derived.Deep.RegionHeld3
set_option linter.unusedVariables false
set_option linter.unusedSimpArgs false
namespace Lec
open Go Go.RowKit
def FR (a : Act) (s1 s3 s5 s7 s8 s9 s10 s11 : Value) : Act :=
  { a with tmps := (((((((a.tmps.setIfInBounds 88 s1).setIfInBounds 90 s3).setIfInBounds 92 s5).setIfInBounds 94 s7).setIfInBounds 13 s8).setIfInBounds 14 s9).setIfInBounds 15 s10).setIfInBounds 16 s11 }
theorem FR_self (a : Act) (h : 94 < a.tmps.size) : FR a (a.tmps.getD 88 undef) (a.tmps.getD 90 undef) (a.tmps.getD 92 undef) (a.tmps.getD 94 undef) (a.tmps.getD 13 undef) (a.tmps.getD 14 undef) (a.tmps.getD 15 undef) (a.tmps.getD 16 undef) = a := by
  have hs : ∀ i, i < a.tmps.size → a.tmps.setIfInBounds i (a.tmps.getD i undef) = a.tmps := fun i hi => by
    apply Array.ext
    · simp
    · intro j h1 h2
      rw [Array.getElem_setIfInBounds]
      split
      · rename_i e; subst e; simp [Array.getD, hi]
      · rfl
  unfold FR
  rw [hs 88 (by omega), hs 90 (by omega), hs 92 (by omega), hs 94 (by omega), hs 13 (by omega), hs 14 (by omega), hs 15 (by omega), hs 16 (by omega)]
section
variable (a : Act) (s1 s3 s5 s7 s8 s9 s10 s11 v : Value)
theorem FR_88 : (FR a s1 s3 s5 s7 s8 s9 s10 s11).put (some 88) v = FR a v s3 s5 s7 s8 s9 s10 s11 := by
  unfold FR Act.put
  simp only [Array.setIfInBounds_setIfInBounds, Array.setIfInBounds_comm _ _ (show 16 ≠ 88 by decide), Array.setIfInBounds_comm _ _ (show 15 ≠ 88 by decide), Array.setIfInBounds_comm _ _ (show 14 ≠ 88 by decide), Array.setIfInBounds_comm _ _ (show 13 ≠ 88 by decide), Array.setIfInBounds_comm _ _ (show 94 ≠ 88 by decide), Array.setIfInBounds_comm _ _ (show 92 ≠ 88 by decide), Array.setIfInBounds_comm _ _ (show 90 ≠ 88 by decide)]
theorem FR_90 : (FR a s1 s3 s5 s7 s8 s9 s10 s11).put (some 90) v = FR a s1 v s5 s7 s8 s9 s10 s11 := by
  unfold FR Act.put
  simp only [Array.setIfInBounds_setIfInBounds, Array.setIfInBounds_comm _ _ (show 16 ≠ 90 by decide), Array.setIfInBounds_comm _ _ (show 15 ≠ 90 by decide), Array.setIfInBounds_comm _ _ (show 14 ≠ 90 by decide), Array.setIfInBounds_comm _ _ (show 13 ≠ 90 by decide), Array.setIfInBounds_comm _ _ (show 94 ≠ 90 by decide), Array.setIfInBounds_comm _ _ (show 92 ≠ 90 by decide)]
theorem FR_92 : (FR a s1 s3 s5 s7 s8 s9 s10 s11).put (some 92) v = FR a s1 s3 v s7 s8 s9 s10 s11 := by
  unfold FR Act.put
  simp only [Array.setIfInBounds_setIfInBounds, Array.setIfInBounds_comm _ _ (show 16 ≠ 92 by decide), Array.setIfInBounds_comm _ _ (show 15 ≠ 92 by decide), Array.setIfInBounds_comm _ _ (show 14 ≠ 92 by decide), Array.setIfInBounds_comm _ _ (show 13 ≠ 92 by decide), Array.setIfInBounds_comm _ _ (show 94 ≠ 92 by decide)]
theorem FR_94 : (FR a s1 s3 s5 s7 s8 s9 s10 s11).put (some 94) v = FR a s1 s3 s5 v s8 s9 s10 s11 := by
  unfold FR Act.put
  simp only [Array.setIfInBounds_setIfInBounds, Array.setIfInBounds_comm _ _ (show 16 ≠ 94 by decide), Array.setIfInBounds_comm _ _ (show 15 ≠ 94 by decide), Array.setIfInBounds_comm _ _ (show 14 ≠ 94 by decide), Array.setIfInBounds_comm _ _ (show 13 ≠ 94 by decide)]
theorem FR_13 : (FR a s1 s3 s5 s7 s8 s9 s10 s11).put (some 13) v = FR a s1 s3 s5 s7 v s9 s10 s11 := by
  unfold FR Act.put
  simp only [Array.setIfInBounds_setIfInBounds, Array.setIfInBounds_comm _ _ (show 16 ≠ 13 by decide), Array.setIfInBounds_comm _ _ (show 15 ≠ 13 by decide), Array.setIfInBounds_comm _ _ (show 14 ≠ 13 by decide)]
theorem FR_14 : (FR a s1 s3 s5 s7 s8 s9 s10 s11).put (some 14) v = FR a s1 s3 s5 s7 s8 v s10 s11 := by
  unfold FR Act.put
  simp only [Array.setIfInBounds_setIfInBounds, Array.setIfInBounds_comm _ _ (show 16 ≠ 14 by decide), Array.setIfInBounds_comm _ _ (show 15 ≠ 14 by decide)]
theorem FR_15 : (FR a s1 s3 s5 s7 s8 s9 s10 s11).put (some 15) v = FR a s1 s3 s5 s7 s8 s9 v s11 := by
  unfold FR Act.put
  simp only [Array.setIfInBounds_setIfInBounds, Array.setIfInBounds_comm _ _ (show 16 ≠ 15 by decide)]
theorem FR_16 : (FR a s1 s3 s5 s7 s8 s9 s10 s11).put (some 16) v = FR a s1 s3 s5 s7 s8 s9 s10 v := by
  unfold FR Act.put
  simp only [Array.setIfInBounds_setIfInBounds]
theorem FR_eval (t : Nat) (h : t ≠ 88 ∧ t ≠ 90 ∧ t ≠ 92 ∧ t ≠ 94 ∧ t ≠ 13 ∧ t ≠ 14 ∧ t ≠ 15 ∧ t ≠ 16) : (FR a s1 s3 s5 s7 s8 s9 s10 s11).eval (.tmp t) = a.eval (.tmp t) := by
  unfold FR Act.eval
  simp only [Array.getD_eq_getD_getElem?]
  rw [Array.getElem?_setIfInBounds_ne (by omega), Array.getElem?_setIfInBounds_ne (by omega), Array.getElem?_setIfInBounds_ne (by omega), Array.getElem?_setIfInBounds_ne (by omega), Array.getElem?_setIfInBounds_ne (by omega), Array.getElem?_setIfInBounds_ne (by omega), Array.getElem?_setIfInBounds_ne (by omega), Array.getElem?_setIfInBounds_ne (by omega)]
end
def LL (c : Nat) (b8 b9 b10 b11 : Bool) : Array Bool := #[true, decide (1 ≤ c), true, decide (2 ≤ c), true, decide (3 ≤ c), true, decide (4 ≤ c), b8, b9, b10, b11, false, false, false, false]
def RR (c : Nat) (b8 b9 b10 b11 : Bool) : List Nat := (if c = 4 then [] else [2 * c + 1]) ++ ((if b8 then [] else [8]) ++ ((if b9 then [] else [9]) ++ ((if b10 then [] else [10]) ++ (if b11 then [] else [11]))))
def cnt (b : Bool) : Nat := if b then 0 else 1
def Al (T : TypeId) (zs : Array Value) (K0 : Nat) (w : World) (v : Value) : Prop := ∃ g, v = .pointer (some ⟨g, 0, none⟩) ∧ K0 ≤ g ∧ Blk w g T zs.toList
theorem Al.ext {T : TypeId} {zs : Array Value} {K0 : Nat} {w w' : World} {v : Value} (h : Al T zs K0 w v) (hb : Below w.heap.size w w') : Al T zs K0 w' v := by
  obtain ⟨g, e, hk, hB⟩ := h
  exact ⟨g, e, hk, hB.ext hb (Nat.le_refl _)⟩
theorem Al.ne {T : TypeId} {zs : Array Value} {K0 : Nat} {w : World} {v : Value} (h : Al T zs K0 w v) : v ≠ .pointer (some ⟨w.heap.size, 0, none⟩) := by
  obtain ⟨g, rfl, _, hB⟩ := h
  intro e
  have e2 : g = w.heap.size := by injection e with e; injection e with e; injection e
  have := hB.lt
  omega
section
variable {P : Program} {ops : Array Oper} {Q : Exit → Act → World → Prop} {S : World → Prop}
def In (a0 : Act) (T : TypeId) (zs : Array Value) (w0 : World) (CG CS : World → Value → Prop) (c : Nat) (b8 b9 b10 b11 : Bool) (a : Act) (w : World) : Prop :=
  ∃ s1 s3 s5 s7 s8 s9 s10 s11, a = FR a0 s1 s3 s5 s7 s8 s9 s10 s11 ∧ Below w0.heap.size w0 w ∧ (1 ≤ c → CG w s1) ∧ (2 ≤ c → CS w s3) ∧ (3 ≤ c → CS w s5) ∧ (4 ≤ c → CS w s7) ∧
    (b8 = true → Al T zs w0.heap.size w s8) ∧ (b9 = true → Al T zs w0.heap.size w s9) ∧ (b10 = true → Al T zs w0.heap.size w s10) ∧ (b11 = true → Al T zs w0.heap.size w s11) ∧
    (b8 = true → b9 = true → s8 ≠ s9) ∧ (b8 = true → b10 = true → s8 ≠ s10) ∧ (b8 = true → b11 = true → s8 ≠ s11) ∧ (b9 = true → b10 = true → s9 ≠ s10) ∧ (b9 = true → b11 = true → s9 ≠ s11) ∧ (b10 = true → b11 = true → s10 ≠ s11)
theorem region18 (a0 : Act) (T : TypeId) (zs : Array Value) (w0 : World) (gv sv : Value) (CG CS : World → Value → Prop) (hsz : 94 < a0.tmps.size)
    (hCG : ∀ w w' v, Below w.heap.size w w' → CG w v → CG w' v) (hCS : ∀ w w' v, Below w.heap.size w w' → CS w v → CS w' v)
    (h87 : a0.eval (.tmp 87) = gv) (h89 : a0.eval (.tmp 89) = sv) (h91 : a0.eval (.tmp 91) = sv) (h93 : a0.eval (.tmp 93) = sv)
    (c1 : ∀ (a : Act) (w : World) (K : Act → World → Prop), Below w0.heap.size w0 w → a.eval (.tmp 87) = gv → (∀ v w', Below w.heap.size w w' → CG w' v → K (a.put (some 88) v) w') → wpOp P ops Q 1 K a w)
    (c3 : ∀ (a : Act) (w : World) (K : Act → World → Prop), Below w0.heap.size w0 w → a.eval (.tmp 89) = sv → (∀ v w', Below w.heap.size w w' → CS w' v → K (a.put (some 90) v) w') → wpOp P ops Q 3 K a w)
    (c5 : ∀ (a : Act) (w : World) (K : Act → World → Prop), Below w0.heap.size w0 w → a.eval (.tmp 91) = sv → (∀ v w', Below w.heap.size w w' → CS w' v → K (a.put (some 92) v) w') → wpOp P ops Q 5 K a w)
    (c7 : ∀ (a : Act) (w : World) (K : Act → World → Prop), Below w0.heap.size w0 w → a.eval (.tmp 93) = sv → (∀ v w', Below w.heap.size w w' → CS w' v → K (a.put (some 94) v) w') → wpOp P ops Q 7 K a w)
    (n8 : ∀ (a : Act) (w : World) (K : Act → World → Prop), K (a.put (some 13) (.pointer (some ⟨w.heap.size, 0, none⟩))) (w.alloc (.cells zs T)) → wpOp P ops Q 8 K a w)
    (n9 : ∀ (a : Act) (w : World) (K : Act → World → Prop), K (a.put (some 14) (.pointer (some ⟨w.heap.size, 0, none⟩))) (w.alloc (.cells zs T)) → wpOp P ops Q 9 K a w)
    (n10 : ∀ (a : Act) (w : World) (K : Act → World → Prop), K (a.put (some 15) (.pointer (some ⟨w.heap.size, 0, none⟩))) (w.alloc (.cells zs T)) → wpOp P ops Q 10 K a w)
    (n11 : ∀ (a : Act) (w : World) (K : Act → World → Prop), K (a.put (some 16) (.pointer (some ⟨w.heap.size, 0, none⟩))) (w.alloc (.cells zs T)) → wpOp P ops Q 11 K a w)
    (hr : ∀ c b8 b9 b10 b11, c ≤ 4 → 0 < (4 - c) + (cnt b8 + cnt b9 + cnt b10 + cnt b11) → Region.ready .any ops (LL c b8 b9 b10 b11) = RR c b8 b9 b10 b11)
    (hS : ∀ w, Below w0.heap.size w0 w → S w)
    (base : ∀ s1 s3 s5 s7 s8 s9 s10 s11 w, Below w0.heap.size w0 w → CG w s1 → CS w s3 → CS w s5 → CS w s7 → Al T zs w0.heap.size w s8 → Al T zs w0.heap.size w s9 → Al T zs w0.heap.size w s10 → Al T zs w0.heap.size w s11 →
      s8 ≠ s9 → s8 ≠ s10 → s8 ≠ s11 → s9 ≠ s10 → s9 ≠ s11 → s10 ≠ s11 → wpAnyH P .any ops Q S 4 (LL 4 true true true true) (FR a0 s1 s3 s5 s7 s8 s9 s10 s11) w) :
    wpAnyH P .any ops Q S 12 (LL 0 false false false false) a0 w0 := by
  have main : ∀ n c b8 b9 b10 b11 a w, c ≤ 4 → n = (4 - c) + (cnt b8 + cnt b9 + cnt b10 + cnt b11) → In a0 T zs w0 CG CS c b8 b9 b10 b11 a w → wpAnyH P .any ops Q S (n + 4) (LL c b8 b9 b10 b11) a w := by
    intro n
    induction n with
    | zero =>
      intro c b8 b9 b10 b11 a w hc hn hI
      cases b8 <;> cases b9 <;> cases b10 <;> cases b11 <;> simp [cnt] at hn
      obtain rfl : c = 4 := by omega
      obtain ⟨s1, s3, s5, s7, s8, s9, s10, s11, rfl, hb, i1, i3, i5, i7, i8, i9, i10, i11, n1, n2, n3, n4, n5, n6⟩ := hI
      exact base _ _ _ _ _ _ _ _ w hb (i1 (by omega)) (i3 (by omega)) (i5 (by omega)) (i7 (by omega)) (i8 rfl) (i9 rfl) (i10 rfl) (i11 rfl) (n1 rfl rfl) (n2 rfl rfl) (n3 rfl rfl) (n4 rfl rfl) (n5 rfl rfl) (n6 rfl rfl)
    | succ n ih =>
      intro c b8 b9 b10 b11 a w hc hn hI
      have hrd := hr c b8 b9 b10 b11 hc (by omega)
      refine wpAnyH_all (fuel := n + 4) hrd (fun e => ?_) (fun i hi => ?_)
      · unfold RR at e
        cases b8 <;> cases b9 <;> cases b10 <;> cases b11 <;> simp at e
        subst e
        simp [cnt] at hn
      · obtain ⟨s1, s3, s5, s7, s8, s9, s10, s11, rfl, hb, i1, i3, i5, i7, i8, i9, i10, i11, n1, n2, n3, n4, n5, n6⟩ := hI
        have step : ∀ (c' : Nat) (b8' b9' b10' b11' : Bool) (a' : Act) (w' : World) (l : Array Bool), c' ≤ 4 → n = (4 - c') + (cnt b8' + cnt b9' + cnt b10' + cnt b11') → l = LL c' b8' b9' b10' b11' → In a0 T zs w0 CG CS c' b8' b9' b10' b11' a' w' → S w' ∧ wpAnyH P .any ops Q S (n + 4) l a' w' := fun c' b8' b9' b10' b11' a' w' l h1 h2 h3 h4 => by
          subst h3
          refine ⟨?_, ih c' b8' b9' b10' b11' a' w' h1 h2 h4⟩
          obtain ⟨_, _, _, _, _, _, _, _, _, h5, _⟩ := h4
          exact hS w' h5
        unfold RR at hi
        simp only [List.mem_append] at hi
        rcases hi with hi | hi | hi | hi | hi
        · by_cases h4 : c = 4
          · rw [if_pos h4] at hi; cases hi
          · rw [if_neg h4] at hi
            obtain rfl : i = 2 * c + 1 := List.mem_singleton.1 hi
            have hcc : c = 0 ∨ c = 1 ∨ c = 2 ∨ c = 3 := by omega
            rcases hcc with rfl | rfl | rfl | rfl
            · refine c1 _ w _ hb (by rw [FR_eval _ _ _ _ _ _ _ _ _ 87 (by decide)]; exact h87) (fun v w' hb' hv => ?_)
              rw [FR_88]
              exact step 1 b8 b9 b10 b11 _ _ _ (by omega) (by omega) rfl ⟨v, s3, s5, s7, s8, s9, s10, s11, rfl, hb.trans (hb'.mono hb.size), fun _ => hv, fun h => by omega, fun h => by omega, fun h => by omega,
                fun h => (i8 h).ext hb', fun h => (i9 h).ext hb', fun h => (i10 h).ext hb', fun h => (i11 h).ext hb', n1, n2, n3, n4, n5, n6⟩
            · refine c3 _ w _ hb (by rw [FR_eval _ _ _ _ _ _ _ _ _ 89 (by decide)]; exact h89) (fun v w' hb' hv => ?_)
              rw [FR_90]
              exact step 2 b8 b9 b10 b11 _ _ _ (by omega) (by omega) rfl ⟨s1, v, s5, s7, s8, s9, s10, s11, rfl, hb.trans (hb'.mono hb.size), fun _ => hCG _ _ _ hb' (i1 (by omega)), fun _ => hv, fun h => by omega, fun h => by omega,
                fun h => (i8 h).ext hb', fun h => (i9 h).ext hb', fun h => (i10 h).ext hb', fun h => (i11 h).ext hb', n1, n2, n3, n4, n5, n6⟩
            · refine c5 _ w _ hb (by rw [FR_eval _ _ _ _ _ _ _ _ _ 91 (by decide)]; exact h91) (fun v w' hb' hv => ?_)
              rw [FR_92]
              exact step 3 b8 b9 b10 b11 _ _ _ (by omega) (by omega) rfl ⟨s1, s3, v, s7, s8, s9, s10, s11, rfl, hb.trans (hb'.mono hb.size), fun _ => hCG _ _ _ hb' (i1 (by omega)), fun _ => hCS _ _ _ hb' (i3 (by omega)), fun _ => hv, fun h => by omega,
                fun h => (i8 h).ext hb', fun h => (i9 h).ext hb', fun h => (i10 h).ext hb', fun h => (i11 h).ext hb', n1, n2, n3, n4, n5, n6⟩
            · refine c7 _ w _ hb (by rw [FR_eval _ _ _ _ _ _ _ _ _ 93 (by decide)]; exact h93) (fun v w' hb' hv => ?_)
              rw [FR_94]
              exact step 4 b8 b9 b10 b11 _ _ _ (by omega) (by omega) rfl ⟨s1, s3, s5, v, s8, s9, s10, s11, rfl, hb.trans (hb'.mono hb.size), fun _ => hCG _ _ _ hb' (i1 (by omega)), fun _ => hCS _ _ _ hb' (i3 (by omega)), fun _ => hCS _ _ _ hb' (i5 (by omega)), fun _ => hv,
                fun h => (i8 h).ext hb', fun h => (i9 h).ext hb', fun h => (i10 h).ext hb', fun h => (i11 h).ext hb', n1, n2, n3, n4, n5, n6⟩
        all_goals
          have hal : Below w.heap.size w (w.alloc (.cells zs T)) := (Below.refl _ _).alloc (Nat.le_refl _) _
          have hnew : Al T zs w0.heap.size (w.alloc (.cells zs T)) (.pointer (some ⟨w.heap.size, 0, none⟩)) := ⟨_, rfl, hb.size, Blk.new w zs T⟩
          have hb' : Below w0.heap.size w0 (w.alloc (.cells zs T)) := hb.alloc hb.size _
        · cases b8 with
          | true => cases hi
          | false =>
            obtain rfl : i = 8 := List.mem_singleton.1 hi
            refine n8 _ w _ ?_
            rw [FR_13]
            exact step c true b9 b10 b11 _ _ _ hc (by simp [cnt] at hn ⊢; omega) rfl ⟨s1, s3, s5, s7, _, s9, s10, s11, rfl, hb', fun h => hCG _ _ _ hal (i1 h), fun h => hCS _ _ _ hal (i3 h), fun h => hCS _ _ _ hal (i5 h), fun h => hCS _ _ _ hal (i7 h),
              fun _ => hnew, fun h => (i9 h).ext hal, fun h => (i10 h).ext hal, fun h => (i11 h).ext hal, fun _ h => ((i9 h).ne).symm, fun _ h => ((i10 h).ne).symm, fun _ h => ((i11 h).ne).symm, n4, n5, n6⟩
        · cases b9 with
          | true => cases hi
          | false =>
            obtain rfl : i = 9 := List.mem_singleton.1 hi
            refine n9 _ w _ ?_
            rw [FR_14]
            exact step c b8 true b10 b11 _ _ _ hc (by simp [cnt] at hn ⊢; omega) rfl ⟨s1, s3, s5, s7, s8, _, s10, s11, rfl, hb', fun h => hCG _ _ _ hal (i1 h), fun h => hCS _ _ _ hal (i3 h), fun h => hCS _ _ _ hal (i5 h), fun h => hCS _ _ _ hal (i7 h),
              fun h => (i8 h).ext hal, fun _ => hnew, fun h => (i10 h).ext hal, fun h => (i11 h).ext hal, fun h _ => (i8 h).ne, n2, n3, fun _ h => ((i10 h).ne).symm, fun _ h => ((i11 h).ne).symm, n6⟩
        · cases b10 with
          | true => cases hi
          | false =>
            obtain rfl : i = 10 := List.mem_singleton.1 hi
            refine n10 _ w _ ?_
            rw [FR_15]
            exact step c b8 b9 true b11 _ _ _ hc (by simp [cnt] at hn ⊢; omega) rfl ⟨s1, s3, s5, s7, s8, s9, _, s11, rfl, hb', fun h => hCG _ _ _ hal (i1 h), fun h => hCS _ _ _ hal (i3 h), fun h => hCS _ _ _ hal (i5 h), fun h => hCS _ _ _ hal (i7 h),
              fun h => (i8 h).ext hal, fun h => (i9 h).ext hal, fun _ => hnew, fun h => (i11 h).ext hal, n1, fun h _ => (i8 h).ne, n3, fun h _ => (i9 h).ne, n5, fun _ h => ((i11 h).ne).symm⟩
        · cases b11 with
          | true => cases hi
          | false =>
            obtain rfl : i = 11 := List.mem_singleton.1 hi
            refine n11 _ w _ ?_
            rw [FR_16]
            exact step c b8 b9 b10 true _ _ _ hc (by simp [cnt] at hn ⊢; omega) rfl ⟨s1, s3, s5, s7, s8, s9, s10, _, rfl, hb', fun h => hCG _ _ _ hal (i1 h), fun h => hCS _ _ _ hal (i3 h), fun h => hCS _ _ _ hal (i5 h), fun h => hCS _ _ _ hal (i7 h),
              fun h => (i8 h).ext hal, fun h => (i9 h).ext hal, fun h => (i10 h).ext hal, fun _ => hnew, n1, n2, fun h _ => (i8 h).ne, n4, fun h _ => (i9 h).ne, fun h _ => (i10 h).ne⟩
  have := main 8 0 false false false false a0 w0 (by omega) (by simp [cnt]) ⟨_, _, _, _, _, _, _, _, (FR_self a0 hsz).symm, Below.refl _ _, fun h => by omega, fun h => by omega, fun h => by omega, fun h => by omega,
    fun h => absurd h (by decide), fun h => absurd h (by decide), fun h => absurd h (by decide), fun h => absurd h (by decide), fun h => absurd h (by decide), fun h => absurd h (by decide), fun h => absurd h (by decide), fun h => absurd h (by decide), fun h => absurd h (by decide), fun h => absurd h (by decide)⟩
  exact this
end
end Lec
