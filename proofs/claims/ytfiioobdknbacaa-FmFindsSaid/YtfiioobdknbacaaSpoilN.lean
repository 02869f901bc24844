/- The walk of lecternlaw0.Numbers: an answer's numbers written over. -/
import Derived.Test.YtfiioobdknbacaaProg
import Derived.Test.YtfiioobdknbacaaQuiet
set_option linter.unusedVariables false
set_option linter.unusedSimpArgs false
namespace Go.Proofs.Ytfiioobdknbacaa
open Go.RowKit Lec

theorem info_i64' : (Try.prog.info? 3).map (fun i => (i.zero, i.size, i.bytes)) = some (some (.int .i64 0), 1, 8) := by kernel_rfl

set_option maxRecDepth 100000 in
theorem spoilN_any (w : World) (base : Nat) (v : Value) (n : Nat) (ys : List Int) (hn : ys.length = n) (hm : n ≤ 1000000000) (hbase : base ≤ w.heap.size) (hown : w.ownsRow base 3 1 v n (ys.map (Value.int .i64))) :
    Calls Try.prog 30 #[v] w fun e w' => e = .returned (.tuple #[]) ∧ w.grownBy w' v.ownBlock := by
  rcases hown.2 with ⟨rfl, rfl⟩ | ⟨g, cap, cur, rfl, _, _, _, _, _, _⟩
  · have HO := Lib.hid hown
    clear hown
    go_enter Try.func30, Try.ntmps30
    go_wp2
    go_loop [2] (fun i => i = .int .i64 0) (fun _ => 0)
    case atStart => rfl
    case round =>
      subst hrel
      go_wp2_with (at_builtin; refine wp_app1 (w0 := w) rfl rfl _ _ 45 rfl base 3 (.int .i64 0) 1 8 Try.underlying45 info_i64' rfl (by decide) (by decide) _ 0 _ rfl HO.out rfl rfl (one_cell1 rfl) (by omega) hbase ?_; intro v' w' hown' hg' hb')
      go_end0
      refine ⟨rfl, hg'.os, hg'.tape, hg'.output, ?_, ?_⟩
      · have := hg'.size; simp at this; omega
      · intro k hk hne
        exact (hg'.block k (by simp; omega) hne).trans (Below.heap_alloc _ _ _ hk)
  · have HO := Lib.hid hown
    have HN := Lib.hid hn
    clear hown hn
    go_enter Try.func30, Try.ntmps30
    go_wp2
    go_loopw [2] (fun i wr => ∃ (k : Nat) (cs : List Int), i = .int .i64 (k : Int) ∧ k ≤ n ∧ cs.length = n ∧ Hid (wr.ownsRow base 3 1 (.slice (some ⟨g, 0, none⟩) n cap) n (cs.map (Value.int .i64))) ∧ Hid (w.grownBy wr (some g))) (fun i _ => n - (intOf i).toNat)
    case atStart => exact ⟨0, ys, rfl, by omega, HN.out, HO, World.grownBy.refl _ _⟩
    case round =>
      obtain ⟨k, cs, rfl, hk, hcs, HR, HG⟩ := hrel
      by_cases h1 : k < n
      · have h1i : (k : Int) < (n : Int) := by omega
        have hkc : k < cs.length := by omega
        have hc : wr.cell? ⟨g, k, none⟩ = some (.int .i64 cs[k]) := by rw [HR.out.cellAt k (by omega)]; simp [hkc]
        have hf := HR.out.frozenAt k
        have hst := HR.out.stored k (.int .i64 (-99))
        have HS1 : Hid ((wr.setCell ⟨g, k, none⟩ (.int .i64 (-99))).ownsRow base 3 1 (.slice (some ⟨g, 0, none⟩) n cap) n ((cs.set k (-99)).map (Value.int .i64))) := by
          show World.ownsRow _ _ _ _ _ _ _; rw [List.map_set]; exact hst.1
        have HS2 := Lib.hid (World.grownBy.trans HG.out hst.2)
        clear hst
        generalize cs[k] = b at *
        go_wp2
        exact ⟨⟨k + 1, cs.set k (-99), by go_num, by omega, by rw [List.length_set]; exact hcs, HS1, HS2⟩, by simp [intOf]; omega⟩
      · obtain rfl : k = n := by omega
        have h1i : ¬ (k : Int) < (k : Int) := by omega
        have hwr : base ≤ wr.heap.size := Nat.le_trans hbase HG.out.size
        go_wp2_with (at_builtin; refine wp_app1 (w0 := wr) rfl rfl _ _ 45 rfl base 3 (.int .i64 0) 1 8 Try.underlying45 info_i64' rfl (by decide) (by decide) _ k _ rfl HR.out rfl rfl (one_cell1 rfl) (by omega) hwr ?_; intro v' w' hown' hg' hb')
        go_end0
        refine ⟨rfl, ?_⟩
        have h2 : wr.grownBy w' (some g) := by
          refine ⟨hg'.os, hg'.tape, hg'.output, ?_, ?_⟩
          · have := hg'.size; simp at this; omega
          · intro k hk hne
            exact (hg'.block k (by simp; omega) hne).trans (Below.heap_alloc _ _ _ hk)
        exact World.grownBy.trans HG.out h2
end Go.Proofs.Ytfiioobdknbacaa
