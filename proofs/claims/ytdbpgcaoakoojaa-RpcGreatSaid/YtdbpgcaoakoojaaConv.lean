/- string(bytes), for a slice told by its cells. -/
import Derived.Test.YtdbpgcaoakoojaaBase
set_option linter.unusedVariables false
set_option linter.unusedSimpArgs false
namespace Lec
open Go Go.RowKit
def bytesOf (bs : List UInt8) : ByteArray := ⟨bs.toArray⟩
theorem conv_str {P : Program} (w : World) (src dst e : TypeId) (hs : P.underlying src = some (.slice e)) (he : P.underlying e = some (.int .u8)) (hd : P.underlying dst = some .string)
    (A : Option Addr) (n c : Nat) (bs : List UInt8) (hn : bs.length = n) (h : Rds w A (bytesV bs)) : (convert src dst (.slice A n c)).run P w = .ok (.string (bytesOf bs)) w := by
  rw [run_convert_bytes_string w src dst e _ n c hs he hd]
  cases A with
  | none =>
    have hb : bs = [] := by
      cases bs with
      | nil => rfl
      | cons b bs => obtain ⟨a, e, _⟩ := h 0 _ rfl; cases e
    subst hb
    simp [Conv.bytesToString]; rfl
  | some ad =>
    have hl : (loadCells ad n).run P w = .ok ((bs.map fun b => (b.toNat : Int)).map (Value.int .u8)).toArray w := by
      have := run_loadCells_list (P := P) w ad ((bs.map fun b => (b.toNat : Int)).map (Value.int .u8)) (fun j v hj => by
        obtain ⟨a, e, hc⟩ := h j v (by rw [← hj, List.map_map]; rfl)
        rw [Option.some.inj e]; exact hc)
      simpa [hn] using this
    rw [run_bytesToString w ad n c _ hl, foldl_push_bytes]
    have e : (bs.map fun b => (b.toNat : Int)).map (fun n => UInt8.ofNat n.toNat) = bs := by
      rw [List.map_map]
      conv => rhs; rw [← List.map_id bs]
      apply List.map_congr_left
      intro b _
      simp
    rw [e]
    simp [bytesOf, ByteArray.empty, ByteArray.emptyWithCapacity]
    rfl
end Lec
