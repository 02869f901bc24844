/- The walks of the reference's Newer, Cut, Slice and Compact, and of lecternlaw0.Entries. -/
import Derived.Test.YtpdnkhdnenibgaaEntM
import Derived.Test.YtpdnkhdnenibgaaEntN
import Derived.Test.YtpdnkhdnenibgaaEntT
set_option linter.unusedVariables false
set_option linter.unusedSimpArgs false
namespace Lec
open Go Go.RowKit
theorem rds_set2 {w : World} {p o : Nat} {u : Value} {A : Option Addr} {vs : List Value} (h : Rds w A vs) (hne : ∀ a, A = some a → a.block ≠ p) : Rds (w.setCell ⟨p, o, none⟩ u) A vs := fun i v hv => by
  obtain ⟨a, e, hc⟩ := h i v hv
  refine ⟨a, e, ?_⟩
  have hb : (a.add i).block = a.block := by unfold Addr.add; split <;> rfl
  exact (World.cell?_of_block (Below.heap_setCell w ⟨p, o, none⟩ u (a.add i).block (by rw [hb]; exact hne a e))).trans hc
end Lec
namespace Go.Proofs.Ytpdnkhdnenibgaa
open Go.RowKit Lec
set_option maxRecDepth 100000 in
theorem rNewer_any (w : World) (b t : Int) (A : Option Addr) (n c : Nat) (es : List Ent) (hn : es.length = n) (hm : n ≤ 9223372036854775807) (hr : Rds w A (entsC es)) (i s : Int) :
    Calls Try.prog 46 #[.agg #[.int .i64 b, .int .i64 t, .slice A n c], .int .i64 i, .int .i64 s] w fun r w' => r = .returned (.bool (newE (endE b t es) i s)) ∧ Below w.heap.size w w' := by
  have HR := Lib.hid hr
  have HN := Lib.hid hn
  clear hr hn
  generalize hnew : newE (endE b t es) i s = u
  have HU := Lib.hid hnew
  clear hnew
  go_enter Try.func46, Try.ntmps46
  go_wp2_with fail
  obtain ⟨w0, hw0⟩ : ∃ w0, w0 = w.alloc (.cells #[.int .i64 b, .int .i64 t, .slice A n c] 26) := ⟨_, rfl⟩
  rw [← hw0]
  have HX : Hid (Below w.heap.size w w0) := by rw [hw0]; exact (Below.refl _ _).alloc (Nat.le_refl _) _
  have hk0 : w0.cell? ⟨w.heap.size, 0, none⟩ = some (.int .i64 b) := by rw [hw0, cell_of_row _ _ _ _ _ _ (heap_alloc_new _ _)]; rfl
  have hk1 : w0.cell? ⟨w.heap.size, 1, none⟩ = some (.int .i64 t) := by rw [hw0, cell_of_row _ _ _ _ _ _ (heap_alloc_new _ _)]; rfl
  have hk2 : w0.cell? ⟨w.heap.size, 2, none⟩ = some (.slice A n c) := by rw [hw0, cell_of_row _ _ _ _ _ _ (heap_alloc_new _ _)]; rfl
  have HR0 := Lib.hid (HR.out.ext HX.out (Nat.le_refl _))
  clear hw0
  refine (rLast_any w0 b t A n c es HN.out hm HR0.out).mono ?_
  rintro r w1 ⟨rfl, hb⟩
  have HF : Hid (Below w.heap.size w w1) := HX.out.trans (hb.mono HX.out.size)
  clear hb
  generalize endE b t es = en at *
  obtain ⟨ei, et⟩ := en
  by_cases h1 : et < s
  · have HE : Hid (u = true) := by show _ = _; rw [← HU.out]; unfold newE; exact decide_eq_true (.inl h1)
    go_wp2
    go_ret
    exact ⟨by rw [HE.out]; rfl, HF.out⟩
  · by_cases h2 : s = et
    · have h2i : (s == et) = true := by rw [beq_iff_eq]; exact h2
      by_cases h3 : ei ≤ i
      · have HE : Hid (u = true) := by show _ = _; rw [← HU.out]; unfold newE; exact decide_eq_true (.inr ⟨h2, h3⟩)
        clear h2
        go_wp2
        go_ret
        exact ⟨by rw [HE.out]; first | rfl | (simp; omega), HF.out⟩
      · have HE : Hid (u = false) := by show _ = _; rw [← HU.out]; unfold newE; exact decide_eq_false (fun h => by rcases h with h | h <;> omega)
        clear h2
        go_wp2
        go_ret
        exact ⟨by rw [HE.out]; first | rfl | (simp; omega), HF.out⟩
    · have h2i : (s == et) = false := by rw [beq_eq_false_iff_ne]; exact h2
      have HE : Hid (u = false) := by show _ = _; rw [← HU.out]; unfold newE; exact decide_eq_false (fun h => by rcases h with h | h <;> omega)
      clear h2
      go_wp2
      go_ret
      exact ⟨by rw [HE.out]; first | rfl | (simp; omega), HF.out⟩


/-- A log out of a reference. -/
def RLog (w : World) (b t : Int) (n : Nat) (xs : List Ent) (e : Ending) (w' : World) : Prop :=
  ∃ (A1 : Option Addr) (c1 : Nat), e = .returned (.agg #[.int .i64 b, .int .i64 t, .slice A1 n c1]) ∧ Rds w' A1 (entsC xs) ∧ Below w.heap.size w w' ∧ ∀ a, A1 = some a → w.heap.size ≤ a.block
def REnts (w : World) (n : Nat) (xs : List Ent) (e : Ending) (w' : World) : Prop :=
  ∃ (A1 : Option Addr) (c1 : Nat), e = .returned (.slice A1 n c1) ∧ Rds w' A1 (entsC xs) ∧ Below w.heap.size w w' ∧ ∀ a, A1 = some a → w.heap.size ≤ a.block
set_option maxRecDepth 100000 in
set_option maxHeartbeats 1000000 in
theorem rCut_any (w : World) (b t : Int) (A : Option Addr) (n c : Nat) (L : List Ent) (hn : L.length = n) (hm : n ≤ 100000) (hr : Rds w A (entsC L)) (hbb : 0 ≤ b ∧ b ≤ 1099511625728) (k : Nat) (hk : k ≤ n) :
    Calls Try.prog 43 #[.agg #[.int .i64 b, .int .i64 t, .slice A n c], .int .i64 (b + k)] w (RLog w b t k (L.take k)) := by
  have HR := Lib.hid hr
  have HN := Lib.hid hn
  clear hr hn
  go_enter Try.func43, Try.ntmps43
  go_wp2_with fail
  obtain ⟨w0, hw0⟩ : ∃ w0, w0 = (w.alloc (.cells #[.int .i64 b, .int .i64 t, .slice A n c] 26)).alloc (.cells #[.int .i64 0, .int .i64 0, .slice none 0 0] 26) := ⟨_, rfl⟩
  rw [← hw0]
  have HX : Hid (Below w.heap.size w w0) := by rw [hw0]; exact ((Below.refl _ _).alloc (Nat.le_refl _) _).alloc (by simp) _
  have HL : Hid (Lg w0 w.heap.size b t (.slice A n c)) := by rw [hw0]; exact (Lg.new w b t _ _).ext (B := w.heap.size + 1) ((Below.refl _ _).alloc (by simp) _) (by simp)
  have HZ : Hid (Lg w0 (w.heap.size + 1) 0 0 (.slice none 0 0)) := by rw [hw0]; have := Lg.new (w.alloc (.cells #[.int .i64 b, .int .i64 t, .slice A n c] 26)) 0 0 (.slice none 0 0) 26; show Lg _ _ _ _ _; simpa using this
  have hz : w.heap.size + 1 < w0.heap.size := by rw [hw0]; simp
  replace HR := Lib.hid (HR.out.ext HX.out (Nat.le_refl _))
  clear hw0
  refine (CopyLog_any w0 b t A n c L HN.out (by omega) HR.out).mono ?_
  rintro e w1 ⟨v, rfl, hown, hb⟩
  obtain ⟨A1, c1, rfl, p1, p2, p3, p4, p5⟩ := own_rds hown
  have HZ1 := Lib.hid (HZ.out.ext hb (Nat.le_refl _))
  have HL1 := Lib.hid (HL.out.ext hb (Nat.le_refl _))
  have HX1 : Hid (Below w.heap.size w w1) := HX.out.trans (hb.mono HX.out.size)
  have HR1 := Lib.hid p4
  have hsz := hb.size
  clear hown hb p4 HX HL HZ HR
  go_upto_region 2 with (fail)
  obtain ⟨w2, hw2⟩ : ∃ w2, w2 = w1.alloc (.cells #[.int .i64 b, .int .i64 t, .slice A1 n c1] 26) := ⟨_, rfl⟩
  have hb2 : Below w1.heap.size w1 w2 := by rw [hw2]; exact (Below.refl _ _).alloc (Nat.le_refl _) _
  have HP : Hid (Lg w2 w1.heap.size b t (.slice A1 n c1)) := by rw [hw2]; exact Lg.new w1 _ _ _ _
  rw [← hw2]
  have HX2 : Hid (Below w.heap.size w w2) := HX1.out.trans (hb2.mono HX1.out.size)
  have HZ2 := Lib.hid (HZ1.out.ext hb2 (Nat.le_refl _))
  have HL2 := Lib.hid (HL1.out.ext hb2 (Nat.le_refl _))
  have HR2 : Hid (Rds w2 A1 (entsC (L.take k))) := Lib.hid (rds_take (HR1.out.ext hb2 (Nat.le_refl _)) k)
  have hp1 : w.heap.size + 1 < w1.heap.size := by omega
  have HA1 : Hid (∀ a, A1 = some a → a.block ≠ w1.heap.size ∧ a.block ≠ w.heap.size + 1 ∧ w.heap.size ≤ a.block) := Lib.hid (fun a ha => by obtain ⟨g, rfl, h1, h2⟩ := p5 a ha; show g ≠ _ ∧ g ≠ _ ∧ _ ≤ g; omega)
  generalize w1.heap.size = p at *
  clear hw2 hb2 HX1 HZ1 HL1 HR1 hsz p5
  have hsub : b + (k : Int) - b = (k : Int) := by omega
  have hw1 : IntKind.i64.wrap (b + (k : Int) - b) = (k : Int) := by rw [hsub]; exact wrap_id (by omega)
  have hw3 : IntKind.i64.wrap (k : Int) = (k : Int) := wrap_id (by omega)
  have hk0 : (0 : Int) ≤ (k : Int) := by omega
  have hkc : (k : Int) ≤ (c1 : Int) := by omega
  obtain ⟨l0, l1, l2, _, _, _, _⟩ := HL2.out
  obtain ⟨q0, q1, q2, r0, r1, r2, _⟩ := HP.out
  obtain ⟨z0, z1, z2, y0, y1, y2, _⟩ := HZ2.out
  have hcase : (c1 = 0 ∧ n = 0 ∧ k = 0) ∨ ∃ a, A1 = some a ∧ ¬ c1 = 0 := by
    cases hA : A1 with
    | none => have := p3 hA; exact .inl ⟨this.2, this.1, by omega⟩
    | some a => by_cases h : c1 = 0
                · exact .inl ⟨h, by omega, by omega⟩
                · exact .inr ⟨a, rfl, h⟩
  rcases hcase with ⟨rfl, rfl, rfl⟩ | ⟨a, rfl, hcz⟩
  · have hpz : p ≠ w.heap.size + 1 := by omega
    go_wp2
    refine bodyPost_ret (v := .agg #[.int .i64 b, .int .i64 t, .slice A1 0 0]) (by simp [results, Try.results43, go_sem, *]) rfl ?_
    refine ⟨_, _, rfl, ?_, ?_, fun a' h => (HA1.out a' h).2.2⟩
    · exact Rds.nil _ _
    · exact (((HX2.out.setCell (by simp; omega) _).setCell (by simp) _).setCell (by simp) _).setCell (by simp) _
  · have hpz : p ≠ w.heap.size + 1 := by omega
    go_wp2
    refine bodyPost_ret (v := .agg #[.int .i64 b, .int .i64 t, .slice (some a) k c1]) (by simp [results, Try.results43, go_sem, *]) rfl ?_
    refine ⟨_, _, rfl, ?_, ?_, fun a' h => (HA1.out a' h).2.2⟩
    · exact rds_put (rds_set2 HR2.out (fun a' h => (HA1.out a' h).1)) (fun a' h => (HA1.out a' h).2.1)
    · exact (((HX2.out.setCell (by simp; omega) _).setCell (by simp) _).setCell (by simp) _).setCell (by simp) _

set_option maxRecDepth 100000 in
set_option maxHeartbeats 1000000 in
theorem rSlice_any (w : World) (b t : Int) (A : Option Addr) (n c : Nat) (L : List Ent) (hn : L.length = n) (hm : n ≤ 100000) (hnc : n ≤ c) (hA : A = none → n = 0 ∧ c = 0) (hr : Rds w A (entsC L)) (hbb : 0 ≤ b ∧ b ≤ 1099511625728) (k N : Nat) (hk : k ≤ n) (hN : N ≤ 9223372036854775807) :
    Calls Try.prog 44 #[.agg #[.int .i64 b, .int .i64 t, .slice A n c], .int .i64 (b + 1 + k), .int .i64 (N : Int)] w (REnts w ((L.drop k).take N).length ((L.drop k).take N)) := by
  obtain ⟨q, hq⟩ : ∃ q, q = min N (n - k) := ⟨_, rfl⟩
  have hlen : ((L.drop k).take N).length = q := by rw [List.length_take, List.length_drop, hn, hq]
  have htk : (L.drop k).take N = (L.drop k).take q := by
    rw [hq]
    by_cases h : N ≤ n - k
    · rw [Nat.min_eq_left h]
    · rw [Nat.min_eq_right (by omega), List.take_of_length_le (by rw [List.length_drop, hn]; omega), List.take_of_length_le (by rw [List.length_drop, hn]; omega)]
  rw [hlen, htk]
  have HR := Lib.hid hr
  have HN := Lib.hid hn
  have HLQ : Hid (((L.drop k).take q).length = q) := by show _ = _; rw [← htk, hlen]
  clear hr hn hlen htk
  have hsub : b + 1 + (k : Int) - b - 1 = (k : Int) := by omega
  have hkn : (k : Int) ≤ (n : Int) := by omega
  have hk0 : (0 : Int) ≤ (k : Int) := by omega
  have hkc : (k : Int) ≤ (c : Int) := by omega
  have hkq : (k : Int) + (q : Int) ≤ (c : Int) := by omega
  have hq0 : (k : Int) ≤ (k : Int) + (q : Int) := by omega
  go_enter Try.func44, Try.ntmps44
  go_upto_region 2 with (fail)
  obtain ⟨w0, hw0⟩ : ∃ w0, w0 = w.alloc (.cells #[.int .i64 b, .int .i64 t, .slice A n c] 26) := ⟨_, rfl⟩
  rw [← hw0]
  have HX : Hid (Below w.heap.size w w0) := by rw [hw0]; exact (Below.refl _ _).alloc (Nat.le_refl _) _
  have HL : Hid (Lg w0 w.heap.size b t (.slice A n c)) := by rw [hw0]; exact Lg.new w b t _ _
  have HR0 := Lib.hid (HR.out.ext HX.out (Nat.le_refl _))
  clear hw0 HR
  obtain ⟨l0, l1, l2, _, _, _, _⟩ := HL.out
  have hnk : (n : Int) - (k : Int) = ((n - k : Nat) : Int) := by omega
  have HCE : Hid (∀ (A' : Option Addr) (d : Nat), Rds w0 A' (entsC ((L.drop k).take q)) → Calls Try.prog 41 #[.slice A' q d] w0 (REnts w q ((L.drop k).take q))) := Lib.hid (fun A' d hr' => (CopyEntries_any w0 A' q d ((L.drop k).take q) HLQ.out (by omega) hr').mono (by
    rintro e w1 ⟨v, rfl, hown, hb⟩
    obtain ⟨A1, c1, rfl, p1, p2, p3, p4, p5⟩ := own_rds hown
    have hs0 := HX.out.size
    exact ⟨A1, c1, rfl, p4, HX.out.trans (hb.mono HX.out.size), fun a ha => by obtain ⟨g, rfl, h1, h2⟩ := p5 a ha; show _ ≤ g; omega⟩))
  have hcase : (c = k ∧ n = k ∧ q = 0) ∨ ∃ a, A = some a ∧ ¬ c = k ∧ ¬ c - k = 0 := by
    cases hA' : A with
    | none => have := hA hA'; exact .inl ⟨by omega, by omega, by omega⟩
    | some a => by_cases h : c = k
                · exact .inl ⟨h, by omega, by omega⟩
                · exact .inr ⟨a, rfl, h, by omega⟩
  clear hA
  by_cases hmin : n - k < N
  · have hqe : q = n - k := by omega
    have hqq : (k : Int) + ((n - k : Nat) : Int) = (n : Int) := by omega
    have hnc' : (n : Int) ≤ (c : Int) := by omega
    rcases hcase with ⟨rfl, rfl, rfl⟩ | ⟨a, rfl, hck, hck2⟩
    · have hN0 : 0 < N := by omega
      have hN1 : ¬ N = 0 := by omega
      clear hq hqe hqq hmin hnk
      go_wp2_with fail
      refine (HCE.out _ _ (Rds.nil _ _)).mono ?_
      rintro e w1 ⟨A1, c1, rfl, hr1, hb1, hbl⟩
      have HBL := Lib.hid hbl
      have HR1 := Lib.hid hr1
      have HB1 := Lib.hid hb1
      clear hr1 hb1 hbl l0 l1 l2 HCE
      go_wp2
      go_ret
      exact ⟨A1, c1, rfl, HR1.out, HB1.out, HBL.out⟩
    · subst hqe
      clear hq
      go_wp2_with fail
      refine (HCE.out _ _ (rds_take (rds_drop HR0.out rfl) _)).mono ?_
      rintro e w1 ⟨A1, c1, rfl, hr1, hb1, hbl⟩
      have HBL := Lib.hid hbl
      have HR1 := Lib.hid hr1
      have HB1 := Lib.hid hb1
      clear hr1 hb1 hbl l0 l1 l2 HCE
      go_wp2
      go_ret
      exact ⟨A1, c1, rfl, HR1.out, HB1.out, HBL.out⟩
  · have hqe : q = N := by omega
    subst hqe
    clear hq
    rcases hcase with ⟨rfl, rfl, rfl⟩ | ⟨a, rfl, hck, hck2⟩
    · go_wp2_with fail
      refine (HCE.out _ _ (Rds.nil _ _)).mono ?_
      rintro e w1 ⟨A1, c1, rfl, hr1, hb1, hbl⟩
      have HBL := Lib.hid hbl
      have HR1 := Lib.hid hr1
      have HB1 := Lib.hid hb1
      clear hr1 hb1 hbl l0 l1 l2 HCE
      go_wp2
      go_ret
      exact ⟨A1, c1, rfl, HR1.out, HB1.out, HBL.out⟩
    · go_wp2_with fail
      refine (HCE.out _ _ (rds_take (rds_drop HR0.out rfl) _)).mono ?_
      rintro e w1 ⟨A1, c1, rfl, hr1, hb1, hbl⟩
      have HBL := Lib.hid hbl
      have HR1 := Lib.hid hr1
      have HB1 := Lib.hid hb1
      clear hr1 hb1 hbl l0 l1 l2 HCE
      go_wp2
      go_ret
      exact ⟨A1, c1, rfl, HR1.out, HB1.out, HBL.out⟩

set_option maxRecDepth 100000 in
set_option maxHeartbeats 1000000 in
theorem rCompact_any (w : World) (b t : Int) (A : Option Addr) (n c : Nat) (L : List Ent) (hn : L.length = n) (hm : n ≤ 100000) (hnc : n ≤ c) (hA : A = none → n = 0 ∧ c = 0) (hr : Rds w A (entsC L)) (hok : mayL b t L) (k : Nat) (hk1 : 1 ≤ k) (hk : k ≤ n) (lt : Int) (hlt : atE b t L (b + k) = some lt) :
    Calls Try.prog 45 #[.agg #[.int .i64 b, .int .i64 t, .slice A n c], .int .i64 (b + k)] w (RLog w (b + k) lt (n - k) (L.drop k)) := by
  have hbb : 0 ≤ b ∧ b ≤ 1099511625728 := ⟨hok.1, hok.2.1⟩
  have HR := Lib.hid hr
  have HN := Lib.hid hn
  have HOK := Lib.hid hok
  have HLT := Lib.hid hlt
  have HLD : Hid ((L.drop k).length = n - k) := by show _ = _; rw [List.length_drop, hn]
  obtain ⟨a, rfl⟩ : ∃ a, A = some a := by
    cases hA' : A with
    | none => have := (hA hA').1; omega
    | some a => exact ⟨a, rfl⟩
  clear hr hn hok hlt hA
  go_enter Try.func45, Try.ntmps45
  go_wp2_with fail
  obtain ⟨w0, hw0⟩ : ∃ w0, w0 = (w.alloc (.cells #[.int .i64 b, .int .i64 t, .slice (some a) n c] 26)).alloc (.cells #[.int .i64 0, .int .i64 0, .slice none 0 0] 26) := ⟨_, rfl⟩
  rw [← hw0]
  have HX : Hid (Below w.heap.size w w0) := by rw [hw0]; exact ((Below.refl _ _).alloc (Nat.le_refl _) _).alloc (by simp) _
  have HL : Hid (Lg w0 w.heap.size b t (.slice (some a) n c)) := by rw [hw0]; exact (Lg.new w b t _ _).ext (B := w.heap.size + 1) ((Below.refl _ _).alloc (by simp) _) (by simp)
  have HZ : Hid (Lg w0 (w.heap.size + 1) 0 0 (.slice none 0 0)) := by rw [hw0]; have := Lg.new (w.alloc (.cells #[.int .i64 b, .int .i64 t, .slice (some a) n c] 26)) 0 0 (.slice none 0 0) 26; show Lg _ _ _ _ _; simpa using this
  have hz : w.heap.size + 1 < w0.heap.size := by rw [hw0]; simp
  replace HR := Lib.hid (HR.out.ext HX.out (Nat.le_refl _))
  clear hw0
  refine (rTerm_any w0 b t (some a) n c L HN.out (by omega) HR.out HOK.out (b + k)).mono ?_
  rw [HLT.out]
  dsimp only [atR]
  rintro e w1 ⟨rfl, hb⟩
  have HZ1 := Lib.hid (HZ.out.ext hb (Nat.le_refl _))
  have HL1 := Lib.hid (HL.out.ext hb (Nat.le_refl _))
  have HX1 : Hid (Below w.heap.size w w1) := HX.out.trans (hb.mono HX.out.size)
  have HR1 := Lib.hid (HR.out.ext hb (Nat.le_refl _))
  have hsz := hb.size
  clear hb HX HL HZ HR
  have hsub : b + (k : Int) - b = (k : Int) := by omega
  have hw1 : IntKind.i64.wrap (b + (k : Int) - b) = (k : Int) := by rw [hsub]; exact wrap_id (by omega)
  have hk0 : (0 : Int) ≤ (k : Int) := by omega
  have hkc : (k : Int) ≤ (c : Int) := by omega
  have hkn : (k : Int) ≤ (n : Int) := by omega
  obtain ⟨l0, l1, l2, _, _, _, _⟩ := HL1.out
  obtain ⟨z0, z1, z2, y0, y1, y2, _⟩ := HZ1.out
  by_cases hck : c = k
  · have hnk : n = k := by omega
    subst hnk
    subst hck
    have HE0 : Hid (L.drop c = []) := by show _ = _; exact List.drop_eq_nil_of_le (by rw [HN.out]; exact Nat.le_refl _)
    go_wp2_with fail
    refine (CopyEntries_any w1 (some a) 0 0 [] rfl (by omega) (Rds.nil _ _)).mono ?_
    rintro e w2 ⟨v, rfl, hown, hb⟩
    obtain ⟨A2, c2, rfl, p1, p2, p3, p4, p5⟩ := own_rds hown
    have HZ2 := Lib.hid (HZ1.out.ext hb (Nat.le_refl _))
    have HX2 : Hid (Below w.heap.size w w2) := HX1.out.trans (hb.mono HX1.out.size)
    have HR2 := Lib.hid p4
    have HNA : Hid (∀ a, A2 = some a → a.block ≠ w.heap.size + 1 ∧ w.heap.size ≤ a.block) := Lib.hid (fun a ha => by obtain ⟨g, rfl, h1, h2⟩ := p5 a ha; show g ≠ _ ∧ _ ≤ g; omega)
    clear l0 l1 l2 z0 z1 z2 y0 y1 y2 hown hb p1 p2 p3 p4 p5
    obtain ⟨z0, z1, z2, y0, y1, y2, _⟩ := HZ2.out
    go_wp2
    refine bodyPost_ret (v := .agg #[.int .i64 (b + (c : Int)), .int .i64 lt, .slice A2 0 c2]) (by simp [results, Try.results45, go_sem, *]) rfl ?_
    show RLog _ _ _ _ _ _ _
    rw [HE0.out, Nat.sub_self]
    refine ⟨_, _, rfl, ?_, ?_, fun a ha => (HNA.out a ha).2⟩
    · exact rds_put HR2.out (fun a ha => (HNA.out a ha).1)
    · exact ((HX2.out.setCell (by simp) _).setCell (by simp) _).setCell (by simp) _
  · have hck2 : ¬ c - k = 0 := by omega
    go_wp2_with fail
    refine (CopyEntries_any w1 (some (a.add (k * 3))) (n - k) (c - k) (L.drop k) HLD.out (by omega) (rds_drop HR1.out rfl)).mono ?_
    rintro e w2 ⟨v, rfl, hown, hb⟩
    obtain ⟨A2, c2, rfl, p1, p2, p3, p4, p5⟩ := own_rds hown
    have HZ2 := Lib.hid (HZ1.out.ext hb (Nat.le_refl _))
    have HX2 : Hid (Below w.heap.size w w2) := HX1.out.trans (hb.mono HX1.out.size)
    have HR2 := Lib.hid p4
    have HNA : Hid (∀ a, A2 = some a → a.block ≠ w.heap.size + 1 ∧ w.heap.size ≤ a.block) := Lib.hid (fun a ha => by obtain ⟨g, rfl, h1, h2⟩ := p5 a ha; show g ≠ _ ∧ _ ≤ g; omega)
    clear l0 l1 l2 z0 z1 z2 y0 y1 y2 hown hb p1 p2 p3 p4 p5
    obtain ⟨z0, z1, z2, y0, y1, y2, _⟩ := HZ2.out
    go_wp2
    refine bodyPost_ret (v := .agg #[.int .i64 (b + (k : Int)), .int .i64 lt, .slice A2 (n - k) c2]) (by simp [results, Try.results45, go_sem, *]) rfl ?_
    show RLog _ _ _ _ _ _ _
    refine ⟨_, _, rfl, ?_, ?_, fun a ha => (HNA.out a ha).2⟩
    · exact rds_put HR2.out (fun a ha => (HNA.out a ha).1)
    · exact ((HX2.out.setCell (by simp) _).setCell (by simp) _).setCell (by simp) _
end Go.Proofs.Ytpdnkhdnenibgaa
