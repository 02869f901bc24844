/- The walks of wire.Sealed, bytes.Equal, sum.Sum of all. -/
import Derived.Test.YtdbpgcaoakoojaaSumL
import Derived.Test.YtdbpgcaoakoojaaConv
import Derived.Test.YtdbpgcaoakoojaaQuiet
set_option linter.unusedVariables false
set_option linter.unusedSimpArgs false
namespace Lec
open Go Go.RowKit
/-- Four bytes of a sum. -/
def be4 (s : Nat) : List UInt8 := [UInt8.ofNat (s / 16777216), UInt8.ofNat (s / 65536), UInt8.ofNat (s / 256), UInt8.ofNat s]
theorem rds_litS (w : World) (cs : Array Value) (T : TypeId) : Rds (w.alloc (.cells cs T)) (some ⟨w.heap.size, 0, none⟩) cs.toList := by
  intro i u hu
  refine ⟨_, rfl, ?_⟩
  rw [Addr.add_lit, cell_of_row _ w.heap.size _ cs T (0, 0) (heap_alloc_new _ _)]
  simpa using hu
end Lec
namespace Go.Proofs.Ytdbpgcaoakoojaa
open Go.RowKit Lec
theorem Sum0_any (w : World) (A : Option Addr) (n c : Nat) (bs : List UInt8) (hn : bs.length = n) (hm : n ≤ 9223372036854775807) (hr : Rds w A (bytesV bs)) :
    Calls Try.prog 36 #[.int .u32 0, .slice A n c] w fun e w' => e = .returned (.int .u32 (csum 0 bs : Int)) ∧ Below w.heap.size w w' := by
  by_cases h : n < 300
  · exact sum_small 0 (by decide) w A n c bs hn h hr
  · exact sum_large 0 (by decide) w A n c bs hn h hm hr
theorem info_u8S : (Try.prog.info? 5).map (fun i => (i.zero, i.size, i.bytes)) = some (some (.int .u8 0), 1, 1) := by kernel_rfl
theorem be4_cells {s : Nat} (hs : s < 4294967296) : bytesV (be4 s) = [.int .u8 ((s : Int) / 16777216), .int .u8 ((s : Int) / 65536 % 256), .int .u8 ((s : Int) / 256 % 256), .int .u8 ((s : Int) % 256)] := by
  unfold bytesV be4
  simp only [List.map_cons, List.map_nil, UInt8.toNat_ofNat']
  refine congr (congrArg List.cons ?_) (congr (congrArg List.cons ?_) (congr (congrArg List.cons ?_) (congr (congrArg List.cons ?_) rfl))) <;> congr 1 <;> omega
set_option maxRecDepth 100000 in
theorem Sealed_any (w : World) (base : Nat) (v : Value) (bs : List UInt8) (hown : w.ownsRow base 5 1 v bs.length (bytesV bs)) (hbase : base ≤ w.heap.size) (hl : bs.length ≤ 2000000) (s : Nat) (hs : s < 4294967296) :
    Calls Try.prog 35 #[v, .int .u32 (s : Int)] w fun e w' => ∃ v', e = .returned v' ∧ w'.ownsRow base 5 1 v' (bs ++ be4 s).length (bytesV (bs ++ be4 s)) ∧ Below base w w' := by
  have HE := Lib.hid (be4_cells hs)
  obtain ⟨wa, hwa⟩ : ∃ z, z = w.alloc (.cells #[.int .u8 ((s : Int) / 16777216), .int .u8 ((s : Int) / 65536 % 256), .int .u8 ((s : Int) / 256 % 256), .int .u8 ((s : Int) % 256)] 5) := ⟨_, rfl⟩
  have hba : Below w.heap.size w wa := by rw [hwa]; exact (Below.refl _ _).alloc (Nat.le_refl _) _
  have HRA : Hid (Rds wa (some ⟨w.heap.size, 0, none⟩) (bytesV (be4 s))) := Lib.hid (by rw [HE.out, hwa]; exact rds_litS w #[.int .u8 ((s : Int) / 16777216), .int .u8 ((s : Int) / 65536 % 256), .int .u8 ((s : Int) / 256 % 256), .int .u8 ((s : Int) % 256)] 5)
  have HO := Lib.hid (own_ext hown hba (Nat.le_refl _))
  have HBA := Lib.hid hba
  have HBS : Hid (base ≤ wa.heap.size) := Lib.hid (Nat.le_trans hbase hba.size)
  have HLT : Hid (∀ k, v.ownBlock = some k → base ≤ k) := Lib.hid fun k hk => (hown.lt k hk).1
  have HWA := Lib.hid hwa.symm
  clear hwa hba hown
  go_enter Try.func35, Try.ntmps35
  go_wp2_with (at_builtin; rw [HWA.out]; refine wp_app rfl _ _ 23 rfl base 5 (.int .u8 0) 1 1 Try.underlying23 info_u8S rfl (by decide) (by decide) _ bs.length _ rfl HO.out (some ⟨w.heap.size, 0, none⟩) 4 4 (bytesV (be4 s)) rfl (fun e => by cases e) (by simp [bytesV, be4]) HRA.out (bytes_one _) (by omega) HBS.out ?_; intro v' w' hown' hg')
  go_ret
  refine ⟨_, rfl, ?_, ?_⟩
  · rw [List.length_append]; unfold bytesV at hown' ⊢; rw [List.map_append]; exact hown'
  · exact (HBA.out.mono hbase).grown hg' HBS.out HLT.out
set_option maxRecDepth 100000 in
theorem bytesEqual_any (w : World) (A : Option Addr) (n c : Nat) (xs : List UInt8) (hn : xs.length = n) (hr : Rds w A (bytesV xs)) (B : Option Addr) (m d : Nat) (ys : List UInt8) (hm : ys.length = m) (hs : Rds w B (bytesV ys)) :
    Calls Try.prog 19 #[.slice A n c, .slice B m d] w fun e w' => e = .returned (.bool (decide (xs = ys))) ∧ w = w' := by
  have h1 := conv_str w 23 9 5 Try.underlying23 Try.underlying5 Try.underlying9 A n c xs hn hr
  have h2 := conv_str w 23 9 5 Try.underlying23 Try.underlying5 Try.underlying9 B m d ys hm hs
  have he : ((bytesOf xs).toList == (bytesOf ys).toList) = decide (xs = ys) := by
    rw [Go.ByteArray.toList_eq, Go.ByteArray.toList_eq]
    simp only [bytesOf]
    by_cases e : xs = ys
    · rw [e]; simp
    · rw [decide_eq_false e]; simpa using e
  have HE := Lib.hid he
  clear he hr hs hn hm
  generalize bytesOf xs = x at *
  generalize bytesOf ys = y at *
  go_enter Try.func19, Try.ntmps19
  go_wp2
  go_ret
  exact ⟨by rw [← HE.out]; rfl, rfl⟩
theorem csum_lt (bs : List UInt8) : csum 0 bs < 4294967296 := by unfold csum; omega
end Go.Proofs.Ytdbpgcaoakoojaa
