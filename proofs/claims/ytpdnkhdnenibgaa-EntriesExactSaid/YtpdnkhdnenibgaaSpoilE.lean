/- The walk of lecternlaw0.Entries: an answer's entries written over. -/
import Derived.Test.YtpdnkhdnenibgaaEntC
import Derived.Test.YtpdnkhdnenibgaaQuiet
set_option linter.unusedVariables false
set_option linter.unusedSimpArgs false
namespace Go.Proofs.Ytpdnkhdnenibgaa
open Go.RowKit Lec
set_option maxRecDepth 100000 in
set_option maxHeartbeats 1000000 in
theorem spoilE_any (w : World) (base : Nat) (v : Value) (n : Nat) (ys : List Value) (hn : ys.length = n * 3) (hm : n ≤ 1000000) (hbase : base ≤ w.heap.size) (hown : w.ownsRow base 56 3 v n ys) :
    Calls Try.prog 47 #[v] w fun e w' => e = .returned (.tuple #[]) ∧ w.grownBy w' v.ownBlock := by
  rcases hown.2 with ⟨rfl, rfl⟩ | ⟨g, cap, cur, rfl, _, _, _, _, _, _⟩
  · have HO := Lib.hid hown
    clear hown
    go_enter Try.func47, Try.ntmps47
    go_wp2
    go_loop [2] (fun i => i = .int .i64 0) (fun _ => 0)
    case atStart => rfl
    case round =>
      subst hrel
      go_wp2_with (at_builtin; refine wp_app1 (w0 := w) rfl rfl _ _ 24 rfl base 56 (.agg #[.int .i64 0, .int .i64 0, .string ⟨#[]⟩]) 3 32 Try.underlying24 info_ent rfl (by decide) (by decide) _ 0 _ rfl HO.out rfl rfl (by intro u hu; simp at hu; rcases hu with rfl | rfl | rfl <;> rfl) (by omega) hbase ?_; intro v' w' hown' hg' hb')
      go_end0
      refine ⟨rfl, hg'.os, hg'.tape, hg'.output, ?_, ?_⟩
      · have := hg'.size; simp at this; omega
      · intro k hk hne
        exact (hg'.block k (by simp; omega) hne).trans (Below.heap_alloc _ _ _ hk)
  · have HO := Lib.hid hown
    have HN := Lib.hid hn
    clear hown hn
    go_enter Try.func47, Try.ntmps47
    go_wp2
    go_loopw [2] (fun i wr => ∃ (k : Nat) (cs : List Value), i = .int .i64 (k : Int) ∧ k ≤ n ∧ Hid (cs.length = n * 3) ∧ Hid (wr.ownsRow base 56 3 (.slice (some ⟨g, 0, none⟩) n cap) n cs) ∧ Hid (w.grownBy wr (some g))) (fun i _ => n - (intOf i).toNat)
    case atStart => exact ⟨0, ys, rfl, by omega, HN.out, HO, World.grownBy.refl _ _⟩
    case round =>
      obtain ⟨k, cs, rfl, hk, HCS, HR, HG⟩ := hrel
      by_cases h1 : k < n
      · have h1i : (k : Int) < (n : Int) := by omega
        have hk0 : (0 : Int) ≤ (k : Int) := by omega
        have hl : k * 3 + 2 < cs.length := by rw [HCS.out]; omega
        have c0 : wr.cell? ⟨g, k * 3, none⟩ = some (cs[k * 3]'(by omega)) := by rw [HR.out.cellAt (k * 3) (by omega)]; exact List.getElem?_eq_getElem _
        have c1 : wr.cell? ⟨g, k * 3 + 1, none⟩ = some (cs[k * 3 + 1]'(by omega)) := by rw [HR.out.cellAt (k * 3 + 1) (by omega)]; exact List.getElem?_eq_getElem _
        have c2 : wr.cell? ⟨g, k * 3 + 2, none⟩ = some (cs[k * 3 + 2]'hl) := by rw [HR.out.cellAt (k * 3 + 2) (by omega)]; exact List.getElem?_eq_getElem _
        have f0 := HR.out.frozenAt (k * 3)
        have f1 := HR.out.frozenAt (k * 3 + 1)
        have f2 := HR.out.frozenAt (k * 3 + 2)
        have s0 := HR.out.stored (k * 3) (.int .i64 (-9))
        have s1 := s0.1.stored (k * 3 + 1) (.int .i64 0)
        have s2 := s1.1.stored (k * 3 + 2) (.string ⟨#[]⟩)
        have HS1 := Lib.hid s2.1
        have HS2 := Lib.hid (World.grownBy.trans HG.out (World.grownBy.trans s0.2 (World.grownBy.trans s1.2 s2.2)))
        have HCS2 : Hid ((((cs.set (k * 3) (.int .i64 (-9))).set (k * 3 + 1) (.int .i64 0)).set (k * 3 + 2) (.string ⟨#[]⟩)).length = n * 3) := by show _ = _; simp only [List.length_set]; exact HCS.out
        clear s0 s1 s2
        generalize cs[k * 3]'(by omega) = v0 at *
        generalize cs[k * 3 + 1]'(by omega) = v1 at *
        generalize cs[k * 3 + 2]'hl = v2 at *
        clear hl
        go_wp2
        exact ⟨⟨k + 1, _, by go_num, by omega, HCS2, HS1, HS2⟩, by simp [intOf]; omega⟩
      · obtain rfl : k = n := by omega
        have h1i : ¬ (k : Int) < (k : Int) := by omega
        have hwr : base ≤ wr.heap.size := Nat.le_trans hbase HG.out.size
        go_wp2_with (at_builtin; refine wp_app1 (w0 := wr) rfl rfl _ _ 24 rfl base 56 (.agg #[.int .i64 0, .int .i64 0, .string ⟨#[]⟩]) 3 32 Try.underlying24 info_ent rfl (by decide) (by decide) _ k _ rfl HR.out rfl rfl (by intro u hu; simp at hu; rcases hu with rfl | rfl | rfl <;> rfl) (by omega) hwr ?_; intro v' w' hown' hg' hb')
        go_end0
        refine ⟨rfl, ?_⟩
        have h2 : wr.grownBy w' (some g) := by
          refine ⟨hg'.os, hg'.tape, hg'.output, ?_, ?_⟩
          · have := hg'.size; simp at this; omega
          · intro k hk hne
            exact (hg'.block k (by simp; omega) hne).trans (Below.heap_alloc _ _ _ hk)
        exact World.grownBy.trans HG.out h2
end Go.Proofs.Ytpdnkhdnenibgaa
