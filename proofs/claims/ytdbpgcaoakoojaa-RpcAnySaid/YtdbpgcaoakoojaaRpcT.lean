/- The walk of the reference's MayRpc, for any message that may be. -/
import Derived.Test.YtdbpgcaoakoojaaRpcI
import Derived.Test.YtdbpgcaoakoojaaRpcJ
import Derived.Test.YtdbpgcaoakoojaaRpcK
set_option linter.unusedVariables false
set_option linter.unusedSimpArgs false
namespace Go.Proofs.Ytdbpgcaoakoojaa
open Go.RowKit Lec
theorem MayRpc_yes (w : World) (m : Rpc) (A : Option Addr) (c : Nat) (hr : Rds w A (entsC m.ents)) (h : mayR m = true) :
    Calls Try.prog 11 #[rpcV m (.slice A m.ents.length c)] w fun e w' => e = .returned (.bool true) ∧ Below w.heap.size w w' := by
  have hnd := mayR_nodes h
  have hnm := mayR_nums h
  have hk := ownB_kind (mayR_own h)
  have hob := mayR_own h
  have hs := of_decide_eq_true (mayR_same h)
  obtain ⟨a0, a1, a2, a3, a4, a5, a6, a7, ok, es, a8, dt, dn⟩ := m
  dsimp only at *
  simp only [List.mem_cons, List.not_mem_nil, or_false, forall_eq_or_imp, forall_eq] at hnm
  obtain ⟨n3, n4, n5, n6, n7, n8⟩ := hnm
  obtain ⟨g1, g2⟩ := hnd
  have hk2 : a0 = 1 ∨ a0 = 2 ∨ a0 = 3 ∨ a0 = 4 ∨ a0 = 5 ∨ a0 = 6 := by omega
  clear h hk
  rcases hk2 with rfl | rfl | rfl | rfl | rfl | rfl
  · simp [ownR, base4] at hs
    obtain ⟨rfl, rfl, rfl, rfl, rfl, rfl, rfl⟩ := hs
    exact MayRpc1_yes w a1 a2 a3 a4 a5 A c g1 g2 n3 n4 n5
  · simp [ownR, base4] at hs
    obtain ⟨rfl, rfl, rfl, rfl, rfl, rfl, rfl, rfl⟩ := hs
    exact MayRpc2_yes w a1 a2 a3 ok A c g1 g2 n3
  · simp [ownR, base4] at hs
    obtain ⟨rfl, rfl, rfl, rfl⟩ := hs
    exact MayRpc3_yes w a1 a2 a3 a4 a5 a6 a7 es es.length rfl A c hr g1 g2 n3 n4 n5 n6 n7 (of_decide_eq_true hob)
  · simp [ownR, base4] at hs
    obtain ⟨rfl, rfl, rfl, rfl, rfl, rfl⟩ := hs
    exact MayRpc4_yes w a1 a2 a3 a4 a7 ok A c g1 g2 n3 n4 n7
  · simp [ownR, base4] at hs
    obtain ⟨rfl, rfl, rfl⟩ := hs
    exact MayRpc5_yes w a1 a2 a3 a4 a5 a7 a8 dt dn A c g1 g2 n3 n4 n5 n7 n8 (of_decide_eq_true hob)
  · simp [ownR, base4] at hs
    obtain ⟨rfl, rfl, rfl, rfl, rfl, rfl⟩ := hs
    exact MayRpc6_yes w a1 a2 a3 a4 a7 a8 A c g1 g2 n3 n4 n7 n8
end Go.Proofs.Ytdbpgcaoakoojaa
