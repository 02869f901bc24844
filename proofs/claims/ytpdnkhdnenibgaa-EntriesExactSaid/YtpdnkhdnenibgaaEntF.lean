/- The walks of slices.Clone, Grow and Concat over entries; entries.with. -/
import Derived.Test.YtpdnkhdnenibgaaEntC
import Derived.Lib.AppendZeros
set_option linter.unusedVariables false
set_option linter.unusedSimpArgs false
namespace Lec
open Go Go.RowKit
/-- A slice of slices of entries. -/
def RdsL (w : World) (A : Option Addr) (xss : List (List Ent)) : Prop :=
  ∀ i (h : i < xss.length), ∃ a B c, A = some a ∧ w.cell? (a.add i) = some (.slice B xss[i].length c) ∧ Rds w B (entsC xss[i]) ∧ (B = none → xss[i].length = 0 ∧ c = 0)
theorem RdsL.ext {w w' : World} {A : Option Addr} {xss : List (List Ent)} {B : Nat} (h : RdsL w A xss) (hb : Below B w w') (hB : w.heap.size ≤ B) : RdsL w' A xss := fun i hi => by
  obtain ⟨a, B', c, e, hc, hr, hn⟩ := h i hi
  exact ⟨a, B', c, e, cell_ext hb hB hc, hr.ext hb hB, hn⟩
def sumLen (xss : List (List Ent)) : Nat := (xss.map List.length).sum
theorem sumLen_snoc {xss : List (List Ent)} {k : Nat} (h : k < xss.length) : sumLen (xss.take (k + 1)) = sumLen (xss.take k) + xss[k].length := by
  unfold sumLen; rw [List.take_succ_eq_append_getElem h, List.map_append, List.sum_append]; rfl
theorem sumLen_le {xss : List (List Ent)} (k : Nat) : sumLen (xss.take k) ≤ sumLen xss := by
  have h : sumLen xss = sumLen (xss.take k) + sumLen (xss.drop k) := by
    unfold sumLen
    rw [← List.sum_append, ← List.map_append, List.take_append_drop]
  omega
theorem sumLen_flat (xss : List (List Ent)) : xss.flatten.length = sumLen xss := by unfold sumLen; rw [List.length_flatten]
theorem flat_snoc {xss : List (List Ent)} {k : Nat} (h : k < xss.length) : (xss.take (k + 1)).flatten = (xss.take k).flatten ++ xss[k] := by
  rw [List.take_succ_eq_append_getElem h, List.flatten_append]; simp only [List.flatten_cons, List.flatten_nil, List.append_nil]
theorem ents_one (es : List Ent) : ∀ u ∈ entsC es, u.oneCell' = true := fun u hu => by
  unfold entsC at hu
  obtain ⟨x, _, hx⟩ := List.mem_flatMap.1 hu
  simp [entC] at hx
  rcases hx with rfl | rfl | rfl <;> rfl
end Lec
namespace Go.Proofs.Ytpdnkhdnenibgaa
open Go.RowKit Lec

set_option maxRecDepth 100000 in
theorem Clone_any (w : World) (A : Option Addr) (n c : Nat) (es : List Ent) (hn : es.length = n) (hm : n ≤ 4000000000) (hA : A = none → n = 0 ∧ c = 0) (hr : Rds w A (entsC es)) :
    Calls Try.prog 70 #[.slice A n c] w fun e w' => ∃ v, e = .returned v ∧ w'.ownsRow w.heap.size 56 3 v n (entsC es) ∧ Below w.heap.size w w' := by
  have hl : (entsC es).length = n * 3 := by rw [entsC_len, hn]
  cases A with
  | none =>
    obtain ⟨rfl, rfl⟩ := hA rfl
    obtain rfl : es = [] := List.eq_nil_of_length_eq_zero hn
    clear hr hA hl
    have hnil := Lib.run_eql_slice_nil (P := Try.prog) w 24 56 none 0 0 0 0 Try.underlying24
    go_enter Try.func70, Try.ntmps70
    go_wp2
    go_ret
    exact ⟨_, rfl, World.ownsRow_nil _ _ _ _, Below.refl _ _⟩
  | some a =>
    have hb0 : Below w.heap.size w (w.alloc (.cells #[] 56)) := (Below.refl _ _).alloc (Nat.le_refl _) _
    have HR := Lib.hid (hr.ext hb0 (Nat.le_refl _))
    have HO : Hid ((w.alloc (.cells #[] 56)).ownsRow w.heap.size 56 3 (.slice (some ⟨w.heap.size, 0, none⟩) 0 0) 0 []) := World.ownsRow_made w #[] 0 (Nat.le_refl _) (by decide) rfl
    have HL := Lib.hid hl
    have HOC := Lib.hid (ents_one es)
    clear hr hA hl hn
    have hnil := Lib.run_eql_slice_nil (P := Try.prog) w 24 56 (some a) n c 0 0 Try.underlying24
    go_enter Try.func70, Try.ntmps70
    go_wp2_with (at_builtin; go_loud (refine wp_app rfl _ _ 24 rfl w.heap.size 56 (.agg #[.int .i64 0, .int .i64 0, .string ⟨#[]⟩]) 3 32 Try.underlying24 info_ent rfl (by decide) (by decide) _ 0 _ rfl HO.out (some a) n c (entsC es) rfl (fun e => by cases e) HL.out HR.out HOC.out (by omega) (by simp) ?_; intro v' w' hown' hg'))
    go_ret
    refine ⟨_, rfl, by simpa using hown', hb0.grown hg' (by simp) (fun k hk => ?_)⟩
    cases hk; exact Nat.le_refl _

set_option maxRecDepth 100000 in
theorem Grow_any (w : World) (n : Nat) (hm : n ≤ 1000000) :
    Calls Try.prog 98 #[.slice none 0 0, .int .i64 n] w fun e w' => ∃ v, e = .returned v ∧ w'.ownsRow w.heap.size 56 3 v 0 [] ∧ Below w.heap.size w w' := by
  obtain ⟨i, hi, hz0, hz1, hz2⟩ := info_parts info_ent
  have hni : ¬ (n : Int) < 0 := by omega
  by_cases h0 : n = 0
  · subst h0
    go_enter Try.func98, Try.ntmps98
    go_wp2
    go_ret
    exact ⟨_, rfl, World.ownsRow_nil _ _ _ _, Below.refl _ _⟩
  · have h1 : (0 : Int) < (n : Int) := by omega
    have hcap := grownCap_ge w n 0 56
    have hcm := grownCap_le_maxLen w n 0 56 (by unfold maxLen; omega)
    have HRUN := Lib.hid (Lib.run_append_nil_zeros (P := Try.prog) w 24 3 24 56 i _ .i64 .i64 Try.underlying24 Try.underlying3 hi hz0 n (by omega) (by omega) (by omega) (by rw [hz2]; omega))
    clear hi hz0 hz1 hz2 h0
    go_enter Try.func98, Try.ntmps98
    go_wp2_with (at_builtin; go_loud (refine Lib.wpList_append_run _ rfl _ _ _ _ rfl _ _ rfl rfl _ _ HRUN.out ?_))
    go_ret
    refine ⟨_, rfl, World.ownsRow_made w.drew _ _ (Nat.le_refl _) hcm ?_, (let h := (Below.refl w.heap.size w).alloc (Nat.le_refl _) _; ⟨h.os, h.tape, h.output, h.size, h.block⟩)⟩
    simp [Builtin.zeroCells, Value.cells]
    omega

set_option maxRecDepth 100000 in
theorem Concat_any (w : World) (A : Option Addr) (n c : Nat) (xss : List (List Ent)) (hn : xss.length = n) (hm : sumLen xss ≤ 1000000) (hnm : n ≤ 1000000) (hr : RdsL w A xss) :
    Calls Try.prog 89 #[.slice A n c] w fun e w' => ∃ v, e = .returned v ∧ w'.ownsRow w.heap.size 56 3 v (sumLen xss) (entsC xss.flatten) ∧ Below w.heap.size w w' := by
  have HR := Lib.hid hr
  have HN := Lib.hid hn
  clear hr hn
  go_enter Try.func89, Try.ntmps89
  go_wp2
  go_loop [3, 11] (fun s i => ∃ k : Nat, k ≤ n ∧ i = .int .i64 k ∧ s = .int .i64 (sumLen (xss.take k) : Nat)) (fun _ i => n - (intOf i).toNat)
  case atStart => exact ⟨0, by omega, rfl, rfl⟩
  case round =>
    obtain ⟨k, hk, rfl, rfl⟩ := hrel
    have hs1 := sumLen_le (xss := xss) k
    by_cases h8 : k < n
    · have hk' : k < xss.length := by rw [HN.out]; exact h8
      have hki : (k : Int) < (n : Int) := by omega
      obtain ⟨a, B, cb, rfl, g0, g1, g2⟩ := HR.out k hk'
      have hs2 := sumLen_snoc hk'
      have hs3 := sumLen_le (xss := xss) (k + 1)
      generalize hl : xss[k].length = l at *
      generalize sumLen (xss.take k) = sk at *
      have HS2 := Lib.hid hs2
      have hlm : l ≤ 1000000 := by omega
      clear hs2 hs3 g1 g2
      have hneg : ¬ (sk : Int) + (l : Int) < 0 := by omega
      go_wp2
      go_round
      case rel => exact ⟨k + 1, by omega, by go_num, by rw [HS2.out]; go_num⟩
      case measure => simp [intOf]; omega
    · obtain rfl : k = n := by omega
      have hki : ¬ (k : Int) < (k : Int) := by omega
      have HT : Hid (xss.take k = xss) := List.take_of_length_le (by rw [HN.out]; exact Nat.le_refl _)
      rw [HT.out] at hs1 ⊢
      clear HT hs1
      go_wp2_with fail
      refine (Grow_any w (sumLen xss) hm).mono ?_
      rintro e w1 ⟨v, rfl, hown, hb⟩
      have HO := Lib.hid hown
      have HX := Lib.hid hb
      clear hown hb
      go_wp2
      go_loopw [6, 27] (fun v i wr => ∃ j : Nat, j ≤ k ∧ i = .int .i64 j ∧ Hid (wr.ownsRow w.heap.size 56 3 v (sumLen (xss.take j)) (entsC (xss.take j).flatten)) ∧ Hid (Below w.heap.size w wr)) (fun _ i _ => k - (intOf i).toNat)
      case atStart => exact ⟨0, by omega, rfl, by show World.ownsRow _ _ _ _ _ _ _; simpa [sumLen, entsC] using HO.out, HX.out⟩
      case round =>
        obtain ⟨j, hj, rfl, HO2, HX2⟩ := hrel
        by_cases h9 : j < k
        · have hj' : j < xss.length := by rw [HN.out]; exact h9
          have hji : (j : Int) < (k : Int) := by omega
          obtain ⟨a, B, cb, rfl, g0, g1, g2⟩ := (HR.out.ext HX2.out (Nat.le_refl _)) j hj'
          have hs2 := sumLen_snoc hj'
          have hs3 := sumLen_le (xss := xss) (j + 1)
          have hfl := flat_snoc hj'
          have HEL : Hid ((entsC xss[j]).length = xss[j].length * 3) := entsC_len _
          generalize hxj : xss[j] = xj at *
          have HS2 := Lib.hid hs2
          have HFL := Lib.hid hfl
          have HG1 := Lib.hid g1
          have HG2 := Lib.hid g2
          have HOC := Lib.hid (ents_one xj)
          have hb32 : (sumLen (xss.take j) + xj.length) * 32 ≤ 140737488355328 := by omega
          clear hs2 hfl g1 g2 hxj
          go_wp2_with (at_builtin; go_loud (refine wp_app rfl _ _ 24 rfl w.heap.size 56 (.agg #[.int .i64 0, .int .i64 0, .string ⟨#[]⟩]) 3 32 Try.underlying24 info_ent rfl (by decide) (by decide) _ (sumLen (xss.take j)) _ rfl HO2.out B xj.length cb (entsC xj) rfl HG2.out HEL.out HG1.out HOC.out hb32 HX2.out.size ?_; intro v' w' hown' hg'))
          have HX3 : Hid (Below w.heap.size w w') := HX2.out.grown hg' HX2.out.size (fun k hk => (HO2.out.lt k hk).1)
          go_roundw
          case rel => exact ⟨j + 1, by omega, by go_num, by show World.ownsRow _ _ _ _ _ _ _; rw [HS2.out, HFL.out, entsC_app]; exact hown', HX3⟩
          case measure => simp [intOf]; omega
        · obtain rfl : j = k := by omega
          have hji : ¬ (j : Int) < (j : Int) := by omega
          have HT : Hid (xss.take j = xss) := List.take_of_length_le (by rw [HN.out]; exact Nat.le_refl _)
          have HO3 : Hid (wr.ownsRow w.heap.size 56 3 u6 (sumLen xss) (entsC xss.flatten)) := by
            have := HO2.out
            rwa [HT.out] at this
          go_wp2
          go_ret
          exact ⟨_, rfl, HO3.out, HX2.out⟩
end Go.Proofs.Ytpdnkhdnenibgaa
