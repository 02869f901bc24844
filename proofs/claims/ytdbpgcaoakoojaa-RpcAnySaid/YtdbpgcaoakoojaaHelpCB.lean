/- The walk of lecternref0.CopyBytes. -/
import Derived.Test.YtdbpgcaoakoojaaProg
import Derived.Test.YtdbpgcaoakoojaaBase
set_option linter.unusedVariables false
set_option linter.unusedSimpArgs false
namespace Go.Proofs.Ytdbpgcaoakoojaa
open Go.RowKit Lec

theorem info_B : (Try.prog.info? 5).map (fun i => (i.zero, i.size, i.bytes)) = some (some (.int .u8 0), 1, 1) := by kernel_rfl

theorem CopyBytes_any (w : World) (A : Option Addr) (n c : Nat) (bs : List UInt8) (hn : bs.length = n) (hm : n ≤ 140737488351232) (hr : Rds w A (bs.map (fun x : UInt8 => Value.int .u8 (x.toNat : Int)))) :
    Calls Try.prog 5 #[.slice A n c] w fun e w' => ∃ v, e = .returned v ∧ w'.ownsRow w.heap.size 5 1 v n (bs.map (fun x : UInt8 => Value.int .u8 (x.toNat : Int))) ∧ Below w.heap.size w w' := by
  have HR := Lib.hid hr
  have HN := Lib.hid hn
  clear hr hn
  go_enter Try.func5, Try.ntmps5
  go_wp2
  go_loopw [3, 4] (fun v i wr => ∃ k : Nat, k ≤ n ∧ i = .int .i64 k ∧ Hid (wr.ownsRow w.heap.size 5 1 v k ((bs.take k).map (fun x : UInt8 => Value.int .u8 (x.toNat : Int)))) ∧ Hid (Below w.heap.size w wr)) (fun _ i _ => n - (intOf i).toNat)
  case atStart => exact ⟨0, by omega, rfl, World.ownsRow_nil _ _ _ _, Below.refl _ _⟩
  case round =>
    obtain ⟨k, hk, rfl, HO, HX⟩ := hrel
    by_cases h8 : k < n
    · have hk' : k < bs.length := by rw [HN.out]; exact h8
      obtain ⟨a, rfl, hb⟩ := HR.out.map k hk'
      have hb1 := cell_ext HX.out (Nat.le_refl _) hb
      clear hb
      have HL := Lib.hid (map_take_snoc (fun x : UInt8 => Value.int .u8 (x.toNat : Int)) bs k hk')
      go_wp2_with (at_builtin; refine wp_app1 (w0 := wr) rfl rfl _ _ 23 rfl w.heap.size 5 (.int .u8 0) 1 1 Try.underlying23 info_B rfl (by decide) (by decide) _ k _ rfl HO.out rfl rfl (one_cell1 rfl) (by omega) HX.out.size ?_; intro v' w' hown' hg' hb')
      go_roundw
      case rel => exact ⟨k + 1, by omega, by go_num, by show World.ownsRow _ _ _ _ _ _ _; rw [HL.out]; exact hown', HX.out.trans hb'⟩
      case measure => simp [intOf]; omega
    · obtain rfl : k = n := by omega
      go_wp2
      go_ret
      refine ⟨_, rfl, ?_, HX.out⟩
      have := HO.out
      rwa [List.take_of_length_le (by rw [HN.out]; exact Nat.le_refl _)] at this

end Go.Proofs.Ytdbpgcaoakoojaa
