/- The walks of wire.Read and wire.Numbers. -/
import Derived.Test.YtdbpgcaoakoojaaCmdL
import Derived.Test.YtdbpgcaoakoojaaQuiet
set_option linter.unusedVariables false
set_option linter.unusedSimpArgs false
namespace Lec
open Go Go.RowKit
theorem bytesWorld_below (w : World) (e : TypeId) (s : ByteArray) : Below w.heap.size w (Go.Lib.bytesWorld w e s) :=
  ⟨rfl, rfl, rfl, by rw [Go.Lib.bytesWorld_size]; omega, fun k hk => Go.Lib.bytesWorld_at_old w e s k hk⟩
theorem bytesWorld_rds (w : World) (e : TypeId) (s : ByteArray) : Rds (Go.Lib.bytesWorld w e s) (some ⟨w.heap.size, 0, none⟩) (bytesV (sb s)) := by
  intro i v hv
  have hi : i < (sb s).length := by
    have := (List.getElem?_eq_some_iff.1 hv).1
    simpa [bytesV] using this
  refine ⟨_, rfl, ?_⟩
  rw [Addr.add_lit, Nat.zero_add, Go.Lib.bytesWorld_cell w e s i (by rw [← sb_len]; exact hi), ← hv]
  unfold bytesV sb
  rw [List.getElem?_map, List.getElem?_eq_getElem hi]
  simp [List.getD, sb] at hi ⊢
  simp [hi]
def rdB (s : ByteArray) : Int × Bool := ((getR (sb s)).1, ((getR (sb s)).2.2 == 0) && ((getR (sb s)).2.1 == (s.size : Int)))
theorem rdB_some {s : ByteArray} {n : Nat} (h : readS s = some n) : rdB s = ((n : Int), true) := by
  unfold readS at h
  unfold rdB getR
  cases hg : getB 0 0 (sb s) with
  | none => rw [hg] at h; cases h
  | some x =>
    obtain ⟨m, k⟩ := x
    rw [hg] at h
    dsimp only at h ⊢
    split at h
    · next hk => obtain rfl := Option.some.inj h; simp [hk]
    · cases h
theorem rdB_none {s : ByteArray} (h : readS s = none) : (rdB s).2 = false := by
  unfold readS at h
  unfold rdB getR
  cases hg : getB 0 0 (sb s) with
  | none => rfl
  | some x =>
    obtain ⟨m, k⟩ := x
    rw [hg] at h
    dsimp only at h ⊢
    split at h
    · cases h
    · next hk => simp; omega
end Lec
namespace Go.Proofs.Ytdbpgcaoakoojaa
open Go.RowKit Lec
theorem Read_any (w : World) (s : ByteArray) (hm : s.size ≤ 140737488351232) : Calls Try.prog 39 #[.string s] w fun e w' => e = .returned (.tuple #[.int .i64 (rdB s).1, .bool (rdB s).2]) ∧ Below w.heap.size w w' := by
  have hcv := fun w => Lib.run_convert_string_bytes (P := Try.prog) w 9 23 5 s Try.underlying9 Try.underlying23 Try.underlying5
  have hbw := bytesWorld_below w 5 s
  have HG := fun cap => Lib.hid (GetNum_any (Go.Lib.bytesWorld w 5 s) (some ⟨w.heap.size, 0, none⟩) s.size cap (sb s) (sb_len s) (by omega) (bytesWorld_rds w 5 s))
  obtain ⟨x, hx⟩ : ∃ x, x = getR (sb s) := ⟨_, rfl⟩
  have hr : rdB s = (x.1, (x.2.2 == 0) && (x.2.1 == (s.size : Int))) := by rw [hx]; rfl
  rw [hr]
  rw [← hx] at HG
  clear hx hr
  obtain ⟨a, b, c⟩ := x
  dsimp only at HG ⊢
  have HB := Lib.hid hbw
  clear hbw
  go_enter Try.func39, Try.ntmps39
  go_wp2_with fail
  refine (HG _).out.mono ?_
  rintro e w1 ⟨rfl, rfl⟩
  cases hc : (c == 0) with
  | false =>
    go_wp2
    go_ret2
    exact ⟨by rw [hc]; rfl, HB.out⟩
  | true =>
    cases hbs : (b == (s.size : Int)) with
    | false =>
      go_wp2
      go_ret2
      exact ⟨by rw [hc, hbs]; rfl, HB.out⟩
    | true =>
      go_wp2
      go_ret2
      exact ⟨by rw [hc, hbs]; rfl, HB.out⟩

theorem info_strN : (Try.prog.info? 9).map (fun i => (i.zero, i.size, i.bytes)) = some (some (.string ⟨#[]⟩), 1, 16) := by kernel_rfl
set_option maxRecDepth 100000 in
set_option maxHeartbeats 1000000 in
theorem Numbers_any (w : World) (A : Option Addr) (n c : Nat) (L : List Int) (hn : L.length = n) (hm : n ≤ 1000) (hs : ∀ x ∈ L, 0 ≤ x ∧ x < 9223372036854775808) (hr : Rds w A (L.map (Value.int .i64))) :
    Calls Try.prog 32 #[.slice A n c] w fun e w' => ∃ v, e = .returned v ∧ w'.ownsRow w.heap.size 9 1 v n ((L.map numS).map Value.string) ∧ Below w.heap.size w w' := by
  have HR := Lib.hid hr
  have HN := Lib.hid hn
  have HS := Lib.hid hs
  clear hr hn hs
  go_enter Try.func32, Try.ntmps32
  go_wp2
  go_loopw [2, 7] (fun v i wr => ∃ k : Nat, i = .int .i64 (k : Int) ∧ k ≤ n ∧ Hid (wr.ownsRow w.heap.size 9 1 v k (((L.take k).map numS).map Value.string)) ∧ Hid (Below w.heap.size w wr)) (fun _ i _ => n - (intOf i).toNat)
  case atStart => exact ⟨0, rfl, by omega, World.ownsRow_nil _ _ _ _, Below.refl _ _⟩
  case round =>
    obtain ⟨k, rfl, hk, HO, HX⟩ := hrel
    by_cases h1 : k < n
    · have h1i : (k : Int) < (n : Int) := by omega
      have hk' : k < L.length := by rw [HN.out]; exact h1
      obtain ⟨a, rfl, cc⟩ := (HR.out.ext HX.out (Nat.le_refl _)) k (.int .i64 L[k]) (by rw [List.getElem?_map, List.getElem?_eq_getElem hk']; rfl)
      have hx := HS.out L[k] (List.getElem_mem hk')
      have HT : Hid ((((L.take (k + 1)).map numS).map Value.string) = (((L.take k).map numS).map Value.string) ++ [Value.string (numS L[k])]) := by show _ = _; rw [List.take_succ_eq_append_getElem hk']; simp only [List.map_append, List.map_cons, List.map_nil]
      generalize L[k] = x at *
      obtain ⟨y, rfl⟩ := Int.eq_ofNat_of_zero_le hx.1
      have HNU := Lib.hid (num_any wr wr.heap.size (.slice none 0 0) [] (World.ownsRow_nil _ _ _ _) (Nat.le_refl _) y (by omega) (by simp))
      go_wp2_with fail
      refine HNU.out.mono ?_
      rintro e w1 ⟨v1, rfl, hown1, hg1⟩
      obtain ⟨A1, c1, rfl, p1, p2, p3, p4, p5⟩ := own_rds hown1
      have hb1 : Below wr.heap.size wr w1 := ⟨hg1.os, hg1.tape, hg1.output, hg1.size, fun k hk => hg1.block k hk (fun h => by cases h)⟩
      have hcv := conv_str w1 23 9 5 Try.underlying23 Try.underlying5 Try.underlying9 A1 _ c1 ([] ++ numB y) rfl p4
      simp only [List.nil_append] at hcv ⊢
      rw [show bytesOf (numB y) = numS (y : Int) by simp [numS]] at hcv
      have HO1 := Lib.hid (own_ext HO.out hb1 (Nat.le_refl _))
      have HX1 : Hid (Below w.heap.size w w1) := HX.out.trans (hb1.mono HX.out.size)
      clear hown1 hg1 p1 p2 p3 p4 p5 hb1 HNU
      generalize numS (y : Int) = sy at *
      go_wp2_with (at_builtin; refine wp_app1 (w0 := w1) rfl rfl _ _ 45 rfl w.heap.size 9 (.string ⟨#[]⟩) 1 16 Try.underlying45 info_strN rfl (by decide) (by decide) _ k _ rfl HO1.out rfl rfl (one_cell1 rfl) (by omega) HX1.out.size ?_; intro v' w' hown' hg' hb')
      go_roundw
      case rel => exact ⟨k + 1, by go_num, by omega, by show World.ownsRow _ _ _ _ _ _ _; rw [HT.out]; exact hown', HX1.out.trans hb'⟩
      case measure => simp [intOf]; omega
    · obtain rfl : k = n := by omega
      have h1i : ¬ (k : Int) < (k : Int) := by omega
      have HT : Hid (L.take k = L) := by show _ = _; exact List.take_of_length_le (by rw [HN.out]; exact Nat.le_refl _)
      go_wp2
      go_ret
      refine ⟨_, rfl, ?_, HX.out⟩
      have := HO.out
      rw [HT.out] at this
      simpa [List.map_map] using this
end Go.Proofs.Ytdbpgcaoakoojaa
