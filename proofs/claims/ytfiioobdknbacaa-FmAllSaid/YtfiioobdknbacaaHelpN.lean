/- Lists of numbers: written over, copied, compared. -/
import Derived.Test.YtfiioobdknbacaaHelpCN
import Derived.Test.YtfiioobdknbacaaProg
import Derived.Test.YtfiioobdknbacaaQuiet
import Derived.Test.YtfiioobdknbacaaBase
set_option linter.unusedVariables false
set_option linter.unusedSimpArgs false
namespace Go.Proofs.Ytfiioobdknbacaa
open Go.RowKit Lec

theorem info_i64' : (Try.prog.info? 3).map (fun i => (i.zero, i.size, i.bytes)) = some (some (.int .i64 0), 1, 8) := by kernel_rfl

set_option maxRecDepth 100000 in
theorem spoilN_any (w : World) (base : Nat) (v : Value) (n : Nat) (ys : List Int) (hn : ys.length = n) (hm : n ≤ 1000000000) (hbase : base ≤ w.heap.size) (hown : w.ownsRow base 3 1 v n (ys.map (Value.int .i64))) :
    Calls Try.prog 30 #[v] w fun e w' => e = .returned (.tuple #[]) ∧ w.grownBy w' v.ownBlock := by
  rcases hown.2 with ⟨rfl, rfl⟩ | ⟨g, cap, cur, rfl, _, _, _, _, _, _⟩
  · have HO := Lib.hid hown
    clear hown
    go_enter Try.func30, Try.ntmps30
    go_wp2
    go_loop [2] (fun i => i = .int .i64 0) (fun _ => 0)
    case atStart => rfl
    case round =>
      subst hrel
      go_wp2_with (at_builtin; refine wp_app1 (w0 := w) rfl rfl _ _ 45 rfl base 3 (.int .i64 0) 1 8 Try.underlying45 info_i64' rfl (by decide) (by decide) _ 0 _ rfl HO.out rfl rfl (one_cell1 rfl) (by omega) hbase ?_; intro v' w' hown' hg' hb')
      go_end0
      refine ⟨rfl, hg'.os, hg'.tape, hg'.output, ?_, ?_⟩
      · have := hg'.size; simp at this; omega
      · intro k hk hne
        exact (hg'.block k (by simp; omega) hne).trans (Below.heap_alloc _ _ _ hk)
  · have HO := Lib.hid hown
    have HN := Lib.hid hn
    clear hown hn
    go_enter Try.func30, Try.ntmps30
    go_wp2
    go_loopw [2] (fun i wr => ∃ (k : Nat) (cs : List Int), i = .int .i64 (k : Int) ∧ k ≤ n ∧ cs.length = n ∧ Hid (wr.ownsRow base 3 1 (.slice (some ⟨g, 0, none⟩) n cap) n (cs.map (Value.int .i64))) ∧ Hid (w.grownBy wr (some g))) (fun i _ => n - (intOf i).toNat)
    case atStart => exact ⟨0, ys, rfl, by omega, HN.out, HO, World.grownBy.refl _ _⟩
    case round =>
      obtain ⟨k, cs, rfl, hk, hcs, HR, HG⟩ := hrel
      by_cases h1 : k < n
      · have h1i : (k : Int) < (n : Int) := by omega
        have hkc : k < cs.length := by omega
        have hc : wr.cell? ⟨g, k, none⟩ = some (.int .i64 cs[k]) := by rw [HR.out.cellAt k (by omega)]; simp [hkc]
        have hf := HR.out.frozenAt k
        have hst := HR.out.stored k (.int .i64 (-99))
        have HS1 : Hid ((wr.setCell ⟨g, k, none⟩ (.int .i64 (-99))).ownsRow base 3 1 (.slice (some ⟨g, 0, none⟩) n cap) n ((cs.set k (-99)).map (Value.int .i64))) := by
          show World.ownsRow _ _ _ _ _ _ _; rw [List.map_set]; exact hst.1
        have HS2 := Lib.hid (World.grownBy.trans HG.out hst.2)
        clear hst
        generalize cs[k] = b at *
        go_wp2
        exact ⟨⟨k + 1, cs.set k (-99), by go_num, by omega, by rw [List.length_set]; exact hcs, HS1, HS2⟩, by simp [intOf]; omega⟩
      · obtain rfl : k = n := by omega
        have h1i : ¬ (k : Int) < (k : Int) := by omega
        have hwr : base ≤ wr.heap.size := Nat.le_trans hbase HG.out.size
        go_wp2_with (at_builtin; refine wp_app1 (w0 := wr) rfl rfl _ _ 45 rfl base 3 (.int .i64 0) 1 8 Try.underlying45 info_i64' rfl (by decide) (by decide) _ k _ rfl HR.out rfl rfl (one_cell1 rfl) (by omega) hwr ?_; intro v' w' hown' hg' hb')
        go_end0
        refine ⟨rfl, ?_⟩
        have h2 : wr.grownBy w' (some g) := by
          refine ⟨hg'.os, hg'.tape, hg'.output, ?_, ?_⟩
          · have := hg'.size; simp at this; omega
          · intro k hk hne
            exact (hg'.block k (by simp; omega) hne).trans (Below.heap_alloc _ _ _ hk)
        exact World.grownBy.trans HG.out h2
end Go.Proofs.Ytfiioobdknbacaa

set_option linter.unusedVariables false
set_option linter.unusedSimpArgs false
namespace Go.Proofs.Ytfiioobdknbacaa
open Go.RowKit Lec


theorem EqNumbers_any (w : World) (A : Option Addr) (n c : Nat) (bs : List Int) (hn : bs.length = n) (hr : Rds w A (bs.map (fun x : Int => Value.int .i64 x))) (B : Option Addr) (m d : Nat) (cs : List Int) (hm : cs.length = m) (hs : Rds w B (cs.map (fun x : Int => Value.int .i64 x))) (hlim : n ≤ 9223372036854775807) :
    Calls Try.prog 29 #[.slice A n c, .slice B m d] w fun e w' => e = .returned (.bool (decide (bs = cs))) ∧ ∃ q, w.drewN q = w' := by
  by_cases hnm : n = m
  · have hnm1 : ((n : Int) != (m : Int)) = false := by rw [hnm]; simp
    have HR := Lib.hid hr
    have HS := Lib.hid hs
    have HN := Lib.hid hn
    have HM := Lib.hid hm
    have HE := Lib.hid hnm
    clear hr hs hn hm hnm
    go_enter Try.func29, Try.ntmps29
    go_wp2
    go_loopw [5] (fun i wr => ∃ k : Nat, k ≤ n ∧ i = .int .i64 k ∧ Hid (bs.take k = cs.take k) ∧ ∃ q, w.drewN q = wr) (fun i _ => n - (intOf i).toNat)
    case atStart => exact ⟨0, by omega, rfl, by show _ = _; simp, 0, rfl⟩
    case round =>
      obtain ⟨k, hk, rfl, HT, q, rfl⟩ := hrel
      by_cases h8 : k < n
      · have hk' : k < bs.length := by rw [HN.out]; exact h8
        have hk2 : k < cs.length := by rw [HM.out, ← HE.out]; exact h8
        obtain ⟨a, rfl, hb⟩ := HR.out.map k hk'
        obtain ⟨b, rfl, hc⟩ := HS.out.map k hk2
        have hi1 : (k : Int) < m := by have := HE.out; omega
        by_cases he : bs[k] = cs[k]
        · have ht : (bs[k] != cs[k]) = false := by rw [he]; simp
          have HE2 := Lib.hid he
          clear he
          go_wp2
          go_quiet (fail)
          go_wp2
          go_roundw
          case rel => exact ⟨k + 1, by omega, by go_num, by show _ = _; rw [List.take_succ_eq_append_getElem hk', List.take_succ_eq_append_getElem hk2, HT.out, HE2.out], by first | exact drawn2 _ _ _ | exact drawn1 _ _⟩
          case measure => simp [intOf]; omega
        · have ht : (bs[k] != cs[k]) = true := by rw [bne_iff_ne]; exact he
          have hne : Hid (bs ≠ cs) := fun h => he (by subst h; rfl)
          clear he
          go_wp2
          go_quiet (fail)
          go_wp2
          go_ret
          exact ⟨by rw [decide_eq_false hne.out]; rfl, by first | exact drawn2 _ _ _ | exact drawn1 _ _⟩
      · obtain rfl : k = n := by omega
        have hfin : Hid (bs = cs) := by
          have h1 := HT.out
          rwa [List.take_of_length_le (by rw [HN.out]; exact Nat.le_refl _), List.take_of_length_le (by rw [HM.out, ← HE.out]; exact Nat.le_refl _)] at h1
        go_wp2
        go_ret
        exact ⟨by rw [decide_eq_true hfin.out]; rfl, drawn1 _ _⟩
  · have hnm1 : ((n : Int) != (m : Int)) = true := by rw [bne_iff_ne]; omega
    have hne : Hid (bs ≠ cs) := fun h => hnm (by rw [← hn, ← hm, h])
    clear hn hm hnm
    go_enter Try.func29, Try.ntmps29
    go_wp2
    go_ret
    exact ⟨by rw [decide_eq_false hne.out]; rfl, 0, rfl⟩

end Go.Proofs.Ytfiioobdknbacaa
