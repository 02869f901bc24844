/- The walk of lecternref0.EqBytes. -/
import Derived.Test.YtdbpgcaoakoojaaProg
import Derived.Test.YtdbpgcaoakoojaaBase
set_option linter.unusedVariables false
set_option linter.unusedSimpArgs false
namespace Go.Proofs.Ytdbpgcaoakoojaa
open Go.RowKit Lec


theorem EqBytes_any (w : World) (A : Option Addr) (n c : Nat) (bs : List UInt8) (hn : bs.length = n) (hr : Rds w A (bs.map (fun x : UInt8 => Value.int .u8 (x.toNat : Int)))) (B : Option Addr) (m d : Nat) (cs : List UInt8) (hm : cs.length = m) (hs : Rds w B (cs.map (fun x : UInt8 => Value.int .u8 (x.toNat : Int)))) (hlim : n ≤ 9223372036854775807) :
    Calls Try.prog 7 #[.slice A n c, .slice B m d] w fun e w' => e = .returned (.bool (decide (bs = cs))) ∧ ∃ q, w.drewN q = w' := by
  by_cases hnm : n = m
  · have hnm1 : ((n : Int) != (m : Int)) = false := by rw [hnm]; simp
    have HR := Lib.hid hr
    have HS := Lib.hid hs
    have HN := Lib.hid hn
    have HM := Lib.hid hm
    have HE := Lib.hid hnm
    clear hr hs hn hm hnm
    go_enter Try.func7, Try.ntmps7
    go_wp2
    go_loopw [5] (fun i wr => ∃ k : Nat, k ≤ n ∧ i = .int .i64 k ∧ Hid (bs.take k = cs.take k) ∧ ∃ q, w.drewN q = wr) (fun i _ => n - (intOf i).toNat)
    case atStart => exact ⟨0, by omega, rfl, by show _ = _; simp, 0, rfl⟩
    case round =>
      obtain ⟨k, hk, rfl, HT, q, rfl⟩ := hrel
      by_cases h8 : k < n
      · have hk' : k < bs.length := by rw [HN.out]; exact h8
        have hk2 : k < cs.length := by rw [HM.out, ← HE.out]; exact h8
        obtain ⟨a, rfl, hb⟩ := HR.out.map k hk'
        obtain ⟨b, rfl, hc⟩ := HS.out.map k hk2
        have hi1 : (k : Int) < m := by have := HE.out; omega
        by_cases he : bs[k] = cs[k]
        · have ht : ((bs[k].toNat : Int) != (cs[k].toNat : Int)) = false := by rw [he]; simp
          have HE2 := Lib.hid he
          clear he
          go_wp2
          go_quiet (fail)
          go_wp2
          go_roundw
          case rel => exact ⟨k + 1, by omega, by go_num, by show _ = _; rw [List.take_succ_eq_append_getElem hk', List.take_succ_eq_append_getElem hk2, HT.out, HE2.out], by first | exact drawn2 _ _ _ | exact drawn1 _ _⟩
          case measure => simp [intOf]; omega
        · have ht : ((bs[k].toNat : Int) != (cs[k].toNat : Int)) = true := by rw [bne_iff_ne]; intro h; exact he (UInt8.toNat_inj.1 (by omega))
          have hne : Hid (bs ≠ cs) := fun h => he (by subst h; rfl)
          clear he
          go_wp2
          go_quiet (fail)
          go_wp2
          go_ret
          exact ⟨by rw [decide_eq_false hne.out]; rfl, by first | exact drawn2 _ _ _ | exact drawn1 _ _⟩
      · obtain rfl : k = n := by omega
        have hfin : Hid (bs = cs) := by
          have h1 := HT.out
          rwa [List.take_of_length_le (by rw [HN.out]; exact Nat.le_refl _), List.take_of_length_le (by rw [HM.out, ← HE.out]; exact Nat.le_refl _)] at h1
        go_wp2
        go_ret
        exact ⟨by rw [decide_eq_true hfin.out]; rfl, drawn1 _ _⟩
  · have hnm1 : ((n : Int) != (m : Int)) = true := by rw [bne_iff_ne]; omega
    have hne : Hid (bs ≠ cs) := fun h => hnm (by rw [← hn, ← hm, h])
    clear hn hm hnm
    go_enter Try.func7, Try.ntmps7
    go_wp2
    go_ret
    exact ⟨by rw [decide_eq_false hne.out]; rfl, 0, rfl⟩

end Go.Proofs.Ytdbpgcaoakoojaa
