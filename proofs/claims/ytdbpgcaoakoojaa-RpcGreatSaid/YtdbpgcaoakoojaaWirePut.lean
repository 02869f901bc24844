/- The walks of wire.num and wire.Put. -/
import Derived.Test.YtdbpgcaoakoojaaWireNum
import Derived.Test.YtdbpgcaoakoojaaPut
import Derived.Lib.AppendStr
set_option linter.unusedVariables false
set_option linter.unusedSimpArgs false
namespace Lec
open Go Go.RowKit Go.Lib
theorem strCells_bytes (s : ByteArray) : strCells s = bytesV (sb s) := rfl
section
variable {P : Program} {w : World} {ops : Array Oper} {rest : List Oper} {o : Oper} {a : Act} {Q : Exit → Act → World → Prop}
/-- append(b, s...), s a text. -/
theorem wp_appS (hgd : o.guard = none) (s x : Operand) (t u : TypeId)
    (ho : o.op = .call { callee := .builtin .append, args := #[s, x], argTypes := #[t, u] })
    (base : Nat) (e : TypeId) (ht : P.underlying t = some (.slice e)) (hu : P.underlying u = some .string) (hinfo : (P.info? e).map (fun i => (i.zero, i.size, i.bytes)) = some (some (.int .u8 0), 1, 1))
    (v : Value) (n : Nat) (bs : List UInt8) (hs : a.eval s = v) (hown : w.ownsRow base e 1 v n (bytesV bs)) (tx : ByteArray) (hx : a.eval x = .string tx) (hbytes : n + tx.size ≤ 140737488355328) (hbase : base ≤ w.heap.size)
    (h : ∀ v' w', w'.ownsRow base e 1 v' (n + tx.size) (bytesV (bs ++ sb tx)) → w.grownBy w' v.ownBlock → wpList P ops Q rest (a.put o.dst v') w') : wpList P ops Q (o :: rest) a w := by
  obtain ⟨i, hi, hz0, hz1, hz2⟩ := info_parts hinfo
  refine wpList_append_own_string w hgd s x t u ho base e i ht hu hi hz0 hz1 hz2 v n _ hs hown tx hx (by simp only [maxLen]; omega) hbytes hbase (fun v' w' p q _ => h v' w' ?_ q)
  rw [strCells_bytes] at p
  unfold bytesV at p ⊢
  rw [List.map_append]; exact p
end
end Lec
namespace Go.Proofs.Ytdbpgcaoakoojaa
open Go.RowKit Lec

theorem num_any (w : World) (base : Nat) (v : Value) (bs : List UInt8) (hown : w.ownsRow base 5 1 v bs.length (bytesV bs)) (hbase : base ≤ w.heap.size) (n : Nat) (hn : n < 9223372036854775808) (hl : bs.length ≤ 140737488300000) :
    Calls Try.prog 41 #[v, .int .i64 (n : Int)] w fun e w' => ∃ v', e = .returned v' ∧ w'.ownsRow base 5 1 v' (bs ++ numB n).length (bytesV (bs ++ numB n)) ∧ w.grownBy w' v.ownBlock := by
  have HO := Lib.hid hown
  have hlen := numB_len9 hn
  clear hown
  go_enter Try.func41, Try.ntmps41
  go_wp2_with fail
  refine (Num_any w n hn).mono ?_
  rintro e w1 ⟨x, rfl, hox, hb⟩
  have HO1 := Lib.hid (own_ext HO.out hb (Nat.le_refl _))
  obtain ⟨A, c, rfl, q1, q2, q3, q4, q5⟩ := own_rds hox
  have HQ3 := Lib.hid q3
  have HQ4 := Lib.hid q4
  have HB := Lib.hid hb
  clear q1 q2 q3 q4 q5 hox hb
  go_wp2_with (at_builtin; refine wp_app rfl _ _ 23 rfl base 5 (.int .u8 0) 1 1 Try.underlying23 info_b8 rfl (by decide) (by decide) _ bs.length _ rfl HO1.out A _ c (bytesV (numB n)) rfl HQ3.out (by simp) HQ4.out (fun u hu => by simp [bytesV] at hu; obtain ⟨_, _, rfl⟩ := hu; rfl) (by omega) (by have := HB.out.size; omega) ?_; intro v' w' hown' hg')
  go_ret
  refine ⟨_, rfl, ?_, ?_⟩
  · unfold bytesV; rw [List.length_append, List.map_append]; exact hown'
  · have hbb := HB.out
    refine ⟨hg'.os.trans hbb.os, hg'.tape.trans hbb.tape, hg'.output.trans hbb.output, Nat.le_trans hbb.size hg'.size, fun k hk hne => (hg'.block k (Nat.lt_of_lt_of_le hk hbb.size) hne).trans (hbb.block k hk)⟩

/-- What Put answers: the bytes, or that there are too many. -/
def PutPost (ss : List ByteArray) (w : World) (e : Ending) (w' : World) : Prop :=
  Below w.heap.size w w' ∧
  (((putB ss).length ≤ 1048576 ∧ ∃ v, e = .returned (.tuple #[v, .int .i64 0]) ∧ w'.ownsRow w.heap.size 5 1 v (putB ss).length (bytesV (putB ss))) ∨
   (1048576 < (putB ss).length ∧ e = .returned (.tuple #[.slice none 0 0, .int .i64 2])))

theorem Put_any (w : World) (A : Option Addr) (n c : Nat) (ss : List ByteArray) (hn : ss.length = n) (hm : n ≤ 140737488351232) (hsz : ∀ s ∈ ss, s.size ≤ 140737488351232) (hr : Rds w A (ss.map Value.string)) :
    Calls Try.prog 34 #[.slice A n c] w (PutPost ss w) := by
  have HR := Lib.hid hr
  have HN := Lib.hid hn
  have HS := Lib.hid hsz
  clear hr hn hsz
  have hlen := numB_len9 (n := n) (by omega)
  go_enter Try.func34, Try.ntmps34
  go_wp2_with fail
  refine (num_any w w.heap.size (.slice none 0 0) [] (World.ownsRow_nil _ _ _ _) (Nat.le_refl _) n (by omega) (by simp)).mono ?_
  rintro e w1 ⟨v, rfl, hown, hg⟩
  have HO1 : Hid (w1.ownsRow w.heap.size 5 1 v (numB n).length (bytesV (numB n))) := hown
  have HX1 : Hid (Below w.heap.size w w1) := (Below.refl _ _).grown hg (Nat.le_refl _) (fun k hk => by simp [Value.ownBlock] at hk)
  clear hown hg
  go_wp2
  go_loopw [4, 12] (fun x i wr => ∃ (k : Nat) (bs : List UInt8), k ≤ n ∧ i = .int .i64 (k : Int) ∧ Hid (bs = numB n ++ textsB (ss.take k)) ∧ bs.length ≤ 1048576 ∧ Hid (wr.ownsRow w.heap.size 5 1 x bs.length (bytesV bs)) ∧ Hid (Below w.heap.size w wr)) (fun _ i _ => n - (intOf i).toNat)
  case atStart => exact ⟨0, numB n, by omega, rfl, by show _ = _; simp [textsB], by omega, HO1, HX1⟩
  case round =>
    clear HO1 HX1
    obtain ⟨k, bs, hk, rfl, HB, hbl, HO, HX⟩ := hrel
    by_cases h8 : k < n
    · have hki : (k : Int) < n := by omega
      have hk' : k < ss.length := by rw [HN.out]; exact h8
      obtain ⟨a, rfl, hb⟩ := HR.out.map k hk'
      have hb1 := cell_ext HX.out (Nat.le_refl _) hb
      have hsk := HS.out ss[k] (List.getElem_mem hk')
      have HT := Lib.hid (textsB_step hk')
      clear hb
      have HP : Hid ((putB ss).length = (numB n).length + (textsB ss).length) := by show _ = _; unfold putB; rw [List.length_append, HN.out]
      have HTL := Lib.hid (textsB_take_le ss (k + 1))
      have HTB := Lib.hid (textB_len ss[k])
      generalize ss[k] = s at *
      have hl9 := numB_len9 (n := s.size) (by omega)
      go_wp2_with fail
      refine (num_any wr w.heap.size _ bs HO.out HX.out.size s.size (by omega) (by omega)).mono ?_
      rintro e w2 ⟨v2, rfl, hown2, hg2⟩
      have HX2 : Hid (Below w.heap.size w w2) := HX.out.grown hg2 HX.out.size (fun k hk => (HO.out.lt k hk).1)
      obtain ⟨A2, c2, rfl, _, _, _, _, _⟩ := own_rds hown2
      have HO2 := Lib.hid hown2
      clear hown2 hg2
      have HL2 : Hid ((bs ++ numB s.size).length = bs.length + (numB s.size).length) := List.length_append
      have hl2 := HL2.out
      obtain ⟨L2, hL2⟩ : ∃ L2, L2 = (bs ++ numB s.size).length := ⟨_, rfl⟩
      rw [← hL2] at hl2 ⊢
      have HL2' := Lib.hid hL2
      have hl2a : L2 ≤ bs.length + 9 := by omega
      have HLE := Lib.hid hl2
      clear hL2 hl2
      have HO2L : Hid (w2.ownsRow w.heap.size 5 1 (.slice A2 L2 c2) L2 (bytesV (bs ++ numB s.size))) := by
        show World.ownsRow _ _ _ _ _ _ _; rw [HL2'.out]; exact HO2.out
      by_cases hbig : (1048576 : Int) - (L2 : Int) < (s.size : Int)
      · have HBIG : Hid (1048576 < (putB ss).length) := by
          show _ < _
          have h1 := HP.out; have h2 := HTL.out; have h3 := HTB.out
          have h4 := congrArg List.length HT.out
          have h5 := congrArg List.length HB.out
          have hl2 := HLE.out
          rw [List.length_append] at h4 h5
          omega
        go_wp2
        go_ret2
        exact ⟨HX2.out, .inr ⟨HBIG.out, rfl⟩⟩
      · have hsb : L2 + s.size ≤ 140737488355328 := by omega
        go_wp2_with (at_builtin; refine wp_appS rfl _ _ 23 9 rfl w.heap.size 5 Try.underlying23 Try.underlying9 info_b8 _ L2 (bs ++ numB s.size) rfl HO2L.out s rfl hsb HX2.out.size ?_; intro v' w' hown' hg')
        have HO3 : Hid (w'.ownsRow w.heap.size 5 1 v' ((bs ++ numB s.size) ++ sb s).length (bytesV ((bs ++ numB s.size) ++ sb s))) := by
          show World.ownsRow _ _ _ _ _ _ _
          rw [List.length_append, sb_len, ← HL2'.out]; exact hown'
        have HX3 : Hid (Below w.heap.size w w') := HX2.out.grown hg' HX2.out.size (fun k hk => (HO2L.out.lt k hk).1)
        clear hown' hg'
        go_roundw
        case rel =>
          refine ⟨k + 1, (bs ++ numB s.size) ++ sb s, by omega, by go_num, ?_, ?_, HO3, HX3⟩
          · show _ = _; rw [HT.out, HB.out]; simp [textB]
          · rw [List.length_append, sb_len, ← HL2'.out]; omega
        case measure => simp [intOf]; omega
    · obtain rfl : k = n := by omega
      have hki : ¬ (k : Int) < k := by omega
      have HE : Hid (bs = putB ss) := by
        show _ = _
        rw [HB.out, List.take_of_length_le (by rw [HN.out]; exact Nat.le_refl _)]
        unfold putB; rw [HN.out]
      obtain ⟨A2, c2, rfl, _, _, _, _, _⟩ := own_rds HO.out
      have hbi : ¬ (1048576 : Int) < (bs.length : Int) := by omega
      go_wp2
      go_ret2
      refine ⟨HX.out, .inl ⟨by rw [← HE.out]; exact hbl, _, rfl, ?_⟩⟩
      rw [← HE.out]; exact HO.out
end Go.Proofs.Ytdbpgcaoakoojaa
