/- Several texts in one. Numbers as bytes, seven bits each, the lowest first. | The walk of lecternlaw0.TextWeight. | Texts as bytes: what they are. No program stands here. | The walks of a number's bytes: wire.Num, and the reference's. | The walks of wire.num and wire.Put. | The walks of reading a number: wire.GetNum, and the reference's. | string(bytes), for a slice told by its cells. | The walks of reading texts: wire's reader. | Texts as bytes, read back: the plain laws. No program stands here. -/
import Derived.Test.YtjpcfpffbicpnaaProg
import Derived.Test.YtjpcfpffbicpnaaPackBas
import Derived.Lib.AppendStr
section
namespace Lec

/-- A number's bytes. -/
def numB (n : Nat) : List UInt8 := if h : n < 128 then [UInt8.ofNat n] else UInt8.ofNat (n % 128 + 128) :: numB (n / 128)
termination_by n
decreasing_by omega

theorem numB_small {n : Nat} (h : n < 128) : numB n = [UInt8.ofNat n] := by rw [numB, dif_pos h]
theorem numB_step {n : Nat} (h : ¬ n < 128) : numB n = UInt8.ofNat (n % 128 + 128) :: numB (n / 128) := by rw [numB, dif_neg h]
theorem numB_ne (n : Nat) : numB n ≠ [] := by rw [numB]; split <;> simp

/-- A number out of bytes, from the i-th byte on; n: what stands already. -/
def getB : Nat → Nat → List UInt8 → Option (Nat × Nat)
  | _, _, [] => none
  | i, n, c :: cs => if i = 9 then none else
      if c.toNat < 128 then (if c.toNat = 0 ∧ 0 < i then none else some (n + c.toNat % 128 * 128 ^ i, i + 1)) else getB (i + 1) (n + c.toNat % 128 * 128 ^ i) cs

theorem getB_bound : ∀ (cs : List UInt8) (i n m k : Nat), i ≤ 9 → n < 128 ^ i → getB i n cs = some (m, k) → m < 128 ^ k ∧ i < k ∧ k ≤ 9 ∧ k ≤ i + cs.length
  | [], i, n, m, k, _, _, h => by simp [getB] at h
  | c :: cs, i, n, m, k, hi, hn, h => by
    unfold getB at h
    have hb : n + c.toNat % 128 * 128 ^ i < 128 ^ (i + 1) := by
      rw [Nat.pow_succ]
      have h1 : c.toNat % 128 * 128 ^ i ≤ 127 * 128 ^ i := Nat.mul_le_mul_right _ (by omega)
      omega
    split at h
    · cases h
    · rename_i h9
      split at h
      · split at h
        · cases h
        · obtain ⟨rfl, rfl⟩ := Prod.mk.inj (Option.some.inj h)
          refine ⟨hb, by omega, by omega, by simp⟩
      · obtain ⟨a, b, c', d⟩ := getB_bound cs (i + 1) _ m k (by omega) hb h
        refine ⟨a, by omega, c', by simp; omega⟩

theorem ofNat_toNat {n : Nat} (h : n < 256) : (UInt8.ofNat n).toNat = n := UInt8.toNat_ofNat_of_lt' h

theorem numB_len : ∀ (n k : Nat), n < 128 ^ k → 0 < k → (numB n).length ≤ k
  | n, 0, _, h => by omega
  | n, k + 1, hn, _ => by
    by_cases h : n < 128
    · rw [numB_small h]; simp
    · rw [numB_step h]
      have hk : 0 < k := by
        rcases Nat.eq_zero_or_pos k with rfl | h'
        · simp at hn; omega
        · exact h'
      have : n / 128 < 128 ^ k := by rw [Nat.pow_succ] at hn; exact Nat.div_lt_of_lt_mul (by omega)
      have := numB_len (n / 128) k this hk
      simp; omega
theorem numB_len_lo : ∀ (k n : Nat), 128 ^ k ≤ n → k < (numB n).length
  | 0, n, h => by have := numB_ne n; cases hh : numB n with | nil => exact absurd hh this | cons _ _ => simp
  | k + 1, n, h => by
    have h1 : 128 ≤ n := by
      have : 128 ^ 1 ≤ 128 ^ (k + 1) := Nat.pow_le_pow_right (by omega) (by omega)
      omega
    rw [numB_step (by omega)]
    have : 128 ^ k ≤ n / 128 := by rw [Nat.le_div_iff_mul_le (by omega), ← Nat.pow_succ]; exact h
    have := numB_len_lo k (n / 128) this
    simp; omega
theorem numB_len9 {n : Nat} (h : n < 9223372036854775808) : (numB n).length ≤ 9 := numB_len n 9 h (by omega)

/-- What was told is read, whatever stands behind. -/
theorem getB_numB : ∀ (n i m : Nat) (rest : List UInt8), (numB n).length + i ≤ 9 → (0 < i → 0 < n) → getB i m (numB n ++ rest) = some (m + n * 128 ^ i, i + (numB n).length) := by
  intro n
  induction n using Nat.strongRecOn with
  | _ n ih =>
    intro i m rest hl hp
    by_cases h : n < 128
    · rw [numB_small h] at hl ⊢
      simp only [List.length_cons, List.length_nil] at hl
      simp only [List.cons_append, List.nil_append, getB, List.length_cons, List.length_nil]
      rw [ofNat_toNat (by omega), if_neg (by omega), if_pos h, if_neg (by omega), Nat.mod_eq_of_lt h]
    · rw [numB_step h] at hl ⊢
      simp only [List.length_cons] at hl
      simp only [List.cons_append, getB, List.length_cons]
      rw [ofNat_toNat (by omega), if_neg (by omega), if_neg (by omega)]
      rw [ih (n / 128) (by omega) (i + 1) _ rest (by omega) (by omega)]
      have e1 : (n % 128 + 128) % 128 = n % 128 := by omega
      have e2 : m + (n % 128 + 128) % 128 * 128 ^ i + n / 128 * 128 ^ (i + 1) = m + n * 128 ^ i := by
        rw [e1, Nat.pow_succ]
        have h3 : n / 128 * (128 ^ i * 128) = n / 128 * 128 * 128 ^ i := by rw [Nat.mul_comm (128 ^ i), Nat.mul_assoc]
        rw [h3, Nat.add_assoc, ← Nat.add_mul]
        congr 2
        omega
      rw [e2]
      congr 2
      omega

/-- What is read is told by just the bytes that were read. -/
theorem numB_getB : ∀ (cs : List UInt8) (i n m k : Nat), i ≤ 9 → n < 128 ^ i → getB i n cs = some (m, k) → (numB (m / 128 ^ i)) = cs.take (k - i) ∧ m % 128 ^ i = n ∧ (0 < i → 0 < m / 128 ^ i)
  | [], i, n, m, k, _, _, h => by simp [getB] at h
  | c :: cs, i, n, m, k, hi, hn, h => by
    unfold getB at h
    have hc : c.toNat < 256 := c.toNat_lt
    have hp : 0 < 128 ^ i := Nat.pow_pos (by omega)
    have hb : n + c.toNat % 128 * 128 ^ i < 128 ^ (i + 1) := by
      rw [Nat.pow_succ]
      have h1 : c.toNat % 128 * 128 ^ i ≤ 127 * 128 ^ i := Nat.mul_le_mul_right _ (by omega)
      omega
    have hd : (n + c.toNat % 128 * 128 ^ i) / 128 ^ i = c.toNat % 128 := by
      rw [Nat.add_mul_div_right _ _ hp, Nat.div_eq_of_lt hn]; omega
    have hmd : (n + c.toNat % 128 * 128 ^ i) % 128 ^ i = n := by rw [Nat.add_mul_mod_self_right, Nat.mod_eq_of_lt hn]
    split at h
    · cases h
    · rename_i h9
      split at h
      · rename_i hc1
        split at h
        · cases h
        · rename_i hz
          obtain ⟨rfl, rfl⟩ := Prod.mk.inj (Option.some.inj h)
          rw [hd, hmd, Nat.mod_eq_of_lt hc1, numB_small hc1]
          refine ⟨?_, rfl, fun h0 => by omega⟩
          rw [show i + 1 - i = 1 by omega]
          simp
      · rename_i hc1
        obtain ⟨a, b, d⟩ := numB_getB cs (i + 1) _ m k (by omega) hb h
        have hk := (getB_bound cs (i + 1) _ m k (by omega) hb h).2.1
        have e1 : m / 128 ^ (i + 1) = m / 128 ^ i / 128 := by rw [Nat.pow_succ, Nat.div_div_eq_div_mul]
        have e2 : m % 128 ^ i = n := by
          rw [← hmd, ← b, Nat.pow_succ, Nat.mod_mul_right_mod]
        have e3 : m / 128 ^ i % 128 = c.toNat % 128 := by
          rw [← hd, ← b, Nat.pow_succ, Nat.mod_mul_right_div_self]
        have hpos := d (by omega)
        rw [e1] at a hpos
        have hge : ¬ m / 128 ^ i < 128 := by omega
        refine ⟨?_, e2, fun _ => by omega⟩
        rw [numB_step hge, a, e3, show k - i = (k - (i + 1)) + 1 by omega, List.take_succ_cons]
        congr 1
        apply UInt8.toNat_inj.1
        rw [ofNat_toNat (by omega)]
        omega

end Lec

end
section
set_option linter.unusedVariables false
set_option linter.unusedSimpArgs false
namespace Lec
/-- How many bytes texts have, up to more than are played. -/
def twOf : Nat → List ByteArray → Nat
  | n, [] => n
  | n, s :: ss => if n < 1048576 then twOf (n + s.size) ss else n
def textsLen (ss : List ByteArray) : Nat := (ss.map (·.size)).sum
theorem twOf_light : ∀ (ss : List ByteArray) (n : Nat), twOf n ss < 1048576 → twOf n ss = n + textsLen ss
  | [], n, _ => by simp [twOf, textsLen]
  | s :: ss, n, h => by
    unfold twOf at h ⊢
    split
    · rename_i hn
      rw [if_pos hn] at h
      rw [twOf_light ss _ h]; simp [textsLen]; omega
    · rename_i hn
      rw [if_neg hn] at h; omega
theorem twOf_stop (ss : List ByteArray) (n : Nat) (h : ¬ n < 1048576) : twOf n ss = n := by
  cases ss with
  | nil => rfl
  | cons s ss => unfold twOf; rw [if_neg h]
theorem twOf_step {ss : List ByteArray} {k : Nat} (hk : k < ss.length) (n : Nat) (h : n < 1048576) : twOf n (ss.drop k) = twOf (n + ss[k].size) (ss.drop (k + 1)) := by
  rw [List.drop_eq_getElem_cons hk]
  conv => lhs; unfold twOf
  rw [if_pos h]
end Lec

end
section
set_option linter.unusedVariables false
set_option linter.unusedSimpArgs false
namespace Lec

abbrev sb (s : ByteArray) : List UInt8 := s.data.toList
theorem sb_len (s : ByteArray) : (sb s).length = s.size := by rw [Array.length_toList]; rfl
/-- One text: its length, its bytes. -/
def textB (s : ByteArray) : List UInt8 := numB s.size ++ sb s
def textsB (ss : List ByteArray) : List UInt8 := ss.flatMap textB
def putB (ss : List ByteArray) : List UInt8 := numB ss.length ++ textsB ss

theorem textsB_snoc (ss : List ByteArray) (s : ByteArray) : textsB (ss ++ [s]) = textsB ss ++ textB s := by simp [textsB]
theorem textB_len (s : ByteArray) : (textB s).length = (numB s.size).length + s.size := by simp [textB, sb_len]
theorem textsB_take_le (ss : List ByteArray) (k : Nat) : (textsB (ss.take k)).length ≤ (textsB ss).length := by
  have : textsB ss = textsB (ss.take k) ++ textsB (ss.drop k) := by
    unfold textsB; rw [← List.flatMap_append, List.take_append_drop]
  rw [this, List.length_append]; omega
theorem textsB_step {ss : List ByteArray} {k : Nat} (h : k < ss.length) : textsB (ss.take (k + 1)) = textsB (ss.take k) ++ textB ss[k] := by
  rw [List.take_succ_eq_append_getElem h, textsB_snoc]
theorem numB_len3 {n : Nat} (h : n < 2097152) : (numB n).length ≤ 3 := numB_len n 3 (by omega) (by omega)
theorem numB_len2 {n : Nat} (h : n < 16384) : (numB n).length ≤ 2 := numB_len n 2 (by omega) (by omega)
/-- Light texts are few bytes. -/
theorem textsB_light : ∀ (ss : List ByteArray), textsLen ss < 16384 → (textsB ss).length ≤ 2 * ss.length + textsLen ss ∧ textsLen ss ≤ (textsB ss).length
  | [], _ => by simp [textsB, textsLen]
  | s :: ss, h => by
    have e : textsLen (s :: ss) = s.size + textsLen ss := by simp [textsLen]
    have := textsB_light ss (by omega)
    have hs : (numB s.size).length ≤ 2 := numB_len2 (by omega)
    have e2 : textsB (s :: ss) = textB s ++ textsB ss := by simp [textsB]
    rw [e2, List.length_append, textB_len, List.length_cons]
    omega
theorem putB_light {ss : List ByteArray} (h : ss.length + textsLen ss ≤ 8000) : (putB ss).length ≤ textsLen ss + 2 + 2 * ss.length ∧ textsLen ss < (putB ss).length := by
  have := textsB_light ss (by omega)
  have h2 : (numB ss.length).length ≤ 2 := numB_len2 (by omega)
  have h3 := List.length_pos_iff.2 (numB_ne ss.length)
  unfold putB
  rw [List.length_append]
  omega
end Lec

end
section
set_option linter.unusedVariables false
set_option linter.unusedSimpArgs false
namespace Lec
open Go
theorem or_tab : ∀ x, x < 256 → x ||| 128 = x % 128 + 128 := by decide +kernel
theorem or128 (m : Nat) : bits BinOp.or IntKind.u8 ((m : Int) % 256) 128 = (((UInt8.ofNat (m % 128 + 128)).toNat : Nat) : Int) := by
  have h := u8_or_nat (m % 256) 128 (by omega) (by omega)
  rw [show ((m : Int) % 256) = ((m % 256 : Nat) : Int) from rfl, show (128 : Int) = ((128 : Nat) : Int) from rfl, h, ofNat_toNat (by omega), or_tab _ (by omega)]
  congr 1; omega
theorem or128' (m : Nat) : bits BinOp.or IntKind.u8 ((m : Int) % 128) 128 = (((UInt8.ofNat (m % 128 + 128)).toNat : Nat) : Int) := by
  have h := u8_or_nat (m % 128) 128 (by omega) (by omega)
  rw [show ((m : Int) % 128) = ((m % 128 : Nat) : Int) from rfl, show (128 : Int) = ((128 : Nat) : Int) from rfl, h, ofNat_toNat (by omega), or_tab _ (by omega)]
  congr 1; omega
theorem small8 {m : Nat} (h : m < 128) : ((m : Int) % 256) = (((UInt8.ofNat m).toNat : Nat) : Int) := by rw [ofNat_toNat (by omega)]; omega
end Lec
namespace Go.Proofs.Ytjpcfpffbicpnaa
open Go.RowKit Lec

theorem info_b8 : (Try.prog.info? 5).map (fun i => (i.zero, i.size, i.bytes)) = some (some (.int .u8 0), 1, 1) := by kernel_rfl

theorem Num_neg (w : World) (n : Int) (h : n < 0) : Calls Try.prog 114 #[.int .i64 n] w fun e w' => e = .returned (.tuple #[.slice none 0 0, .int .i64 1]) ∧ w = w' := by
  go_enter Try.func114, Try.ntmps114
  go_wp2
  go_ret2
  exact ⟨rfl, rfl⟩

theorem Num_any (w : World) (n : Nat) (hn : n < 9223372036854775808) :
    Calls Try.prog 114 #[.int .i64 (n : Int)] w fun e w' => ∃ v, e = .returned (.tuple #[v, .int .i64 0]) ∧ w'.ownsRow w.heap.size 5 1 v (numB n).length (bytesV (numB n)) ∧ Below w.heap.size w w' := by
  have hlen := numB_len9 hn
  have hn0 : ¬ (n : Int) < 0 := by omega
  go_enter Try.func114, Try.ntmps114
  go_wp2
  go_loopw [0, 2] (fun x v wr => ∃ (m : Nat) (bs : List UInt8), m ≤ n ∧ x = .int .i64 (m : Int) ∧ Hid (numB n = bs ++ numB m) ∧ Hid (wr.ownsRow w.heap.size 5 1 v bs.length (bytesV bs)) ∧ Hid (Below w.heap.size w wr)) (fun x _ _ => (intOf x).toNat)
  case atStart => exact ⟨n, [], Nat.le_refl _, rfl, rfl, World.ownsRow_nil _ _ _ _, Below.refl _ _⟩
  case round =>
    obtain ⟨m, bs, hm, rfl, HB, HO, HX⟩ := hrel
    have hbl : bs.length < 9 := by
      have := congrArg List.length HB.out
      rw [List.length_append] at this
      have h1 := List.length_pos_iff.2 (numB_ne m)
      omega
    by_cases h : m < 128
    · have hi : ¬ (128 : Int) ≤ (m : Int) := by omega
      have h8 : Hid ((((UInt8.ofNat m).toNat : Nat) : Int) = m) := by show _ = _; rw [ofNat_toNat (by omega)]
      have HE : Hid (numB n = bs ++ [UInt8.ofNat m]) := by have := HB.out; rwa [numB_small h] at this
      go_wp2_with (at_builtin; refine wp_app1 (w0 := wr) rfl rfl _ _ 23 rfl w.heap.size 5 (.int .u8 0) 1 1 Try.underlying23 info_b8 rfl (by decide) (by decide) _ bs.length _ rfl HO.out rfl rfl (one_cell1 rfl) (by omega) HX.out.size ?_; intro v' w' hown' hg' hb')
      go_ret2
      refine ⟨_, rfl, ?_, HX.out.trans hb'⟩
      rw [HE.out]; unfold bytesV; rw [List.map_append, List.length_append, List.map_cons, List.map_nil, h8.out]; exact hown'
    · have hi : (128 : Int) ≤ (m : Int) := by omega
      have h8 := or128 m
      have HE : Hid (numB n = (bs ++ [UInt8.ofNat (m % 128 + 128)]) ++ numB (m / 128)) := by have := HB.out; rw [numB_step h] at this; show _ = _; rw [List.append_assoc]; exact this
      go_wp2_with (at_builtin; refine wp_app1 (w0 := wr) rfl rfl _ _ 23 rfl w.heap.size 5 (.int .u8 0) 1 1 Try.underlying23 info_b8 rfl (by decide) (by decide) _ bs.length _ rfl HO.out rfl rfl (one_cell1 rfl) (by omega) HX.out.size ?_; intro v' w' hown' hg' hb')
      go_roundw
      case rel => exact ⟨m / 128, bs ++ [UInt8.ofNat (m % 128 + 128)], by omega, rfl, HE, by show World.ownsRow _ _ _ _ _ _ _; unfold bytesV; rw [List.map_append, List.length_append]; exact hown', HX.out.trans hb'⟩
      case measure => simp [intOf]; omega

end Go.Proofs.Ytjpcfpffbicpnaa

end
section
set_option linter.unusedVariables false
set_option linter.unusedSimpArgs false
namespace Lec
open Go Go.RowKit Go.Lib
theorem strCells_bytes (s : ByteArray) : strCells s = bytesV (sb s) := rfl
section
variable {P : Program} {w : World} {ops : Array Oper} {rest : List Oper} {o : Oper} {a : Act} {Q : Exit → Act → World → Prop}
/-- append(b, s...), s a text. -/
theorem wp_appS (hgd : o.guard = none) (s x : Operand) (t u : TypeId)
    (ho : o.op = .call { callee := .builtin .append, args := #[s, x], argTypes := #[t, u] })
    (base : Nat) (e : TypeId) (ht : P.underlying t = some (.slice e)) (hu : P.underlying u = some .string) (hinfo : (P.info? e).map (fun i => (i.zero, i.size, i.bytes)) = some (some (.int .u8 0), 1, 1))
    (v : Value) (n : Nat) (bs : List UInt8) (hs : a.eval s = v) (hown : w.ownsRow base e 1 v n (bytesV bs)) (tx : ByteArray) (hx : a.eval x = .string tx) (hbytes : n + tx.size ≤ 140737488355328) (hbase : base ≤ w.heap.size)
    (h : ∀ v' w', w'.ownsRow base e 1 v' (n + tx.size) (bytesV (bs ++ sb tx)) → w.grownBy w' v.ownBlock → wpList P ops Q rest (a.put o.dst v') w') : wpList P ops Q (o :: rest) a w := by
  obtain ⟨i, hi, hz0, hz1, hz2⟩ := info_parts hinfo
  refine wpList_append_own_string w hgd s x t u ho base e i ht hu hi hz0 hz1 hz2 v n _ hs hown tx hx (by simp only [maxLen]; omega) hbytes hbase (fun v' w' p q _ => h v' w' ?_ q)
  rw [strCells_bytes] at p
  unfold bytesV at p ⊢
  rw [List.map_append]; exact p
end
end Lec
namespace Go.Proofs.Ytjpcfpffbicpnaa
open Go.RowKit Lec

theorem num_any (w : World) (base : Nat) (v : Value) (bs : List UInt8) (hown : w.ownsRow base 5 1 v bs.length (bytesV bs)) (hbase : base ≤ w.heap.size) (n : Nat) (hn : n < 9223372036854775808) (hl : bs.length ≤ 140737488300000) :
    Calls Try.prog 87 #[v, .int .i64 (n : Int)] w fun e w' => ∃ v', e = .returned v' ∧ w'.ownsRow base 5 1 v' (bs ++ numB n).length (bytesV (bs ++ numB n)) ∧ w.grownBy w' v.ownBlock := by
  have HO := Lib.hid hown
  have hlen := numB_len9 hn
  clear hown
  go_enter Try.func87, Try.ntmps87
  go_wp2_with fail
  refine (Num_any w n hn).mono ?_
  rintro e w1 ⟨x, rfl, hox, hb⟩
  have HO1 := Lib.hid (own_ext HO.out hb (Nat.le_refl _))
  obtain ⟨A, c, rfl, q1, q2, q3, q4, q5⟩ := own_rds hox
  have HQ3 := Lib.hid q3
  have HQ4 := Lib.hid q4
  have HB := Lib.hid hb
  clear q1 q2 q3 q4 q5 hox hb
  go_wp2_with (at_builtin; refine wp_app rfl _ _ 23 rfl base 5 (.int .u8 0) 1 1 Try.underlying23 info_b8 rfl (by decide) (by decide) _ bs.length _ rfl HO1.out A _ c (bytesV (numB n)) rfl HQ3.out (by simp) HQ4.out (fun u hu => by simp [bytesV] at hu; obtain ⟨_, _, rfl⟩ := hu; rfl) (by omega) (by have := HB.out.size; omega) ?_; intro v' w' hown' hg')
  go_ret
  refine ⟨_, rfl, ?_, ?_⟩
  · unfold bytesV; rw [List.length_append, List.map_append]; exact hown'
  · have hbb := HB.out
    refine ⟨hg'.os.trans hbb.os, hg'.tape.trans hbb.tape, hg'.output.trans hbb.output, Nat.le_trans hbb.size hg'.size, fun k hk hne => (hg'.block k (Nat.lt_of_lt_of_le hk hbb.size) hne).trans (hbb.block k hk)⟩

/-- What Put answers: the bytes, or that there are too many. -/
def PutPost (ss : List ByteArray) (w : World) (e : Ending) (w' : World) : Prop :=
  Below w.heap.size w w' ∧
  (((putB ss).length ≤ 1048576 ∧ ∃ v, e = .returned (.tuple #[v, .int .i64 0]) ∧ w'.ownsRow w.heap.size 5 1 v (putB ss).length (bytesV (putB ss))) ∨
   (1048576 < (putB ss).length ∧ e = .returned (.tuple #[.slice none 0 0, .int .i64 2])))

theorem Put_any (w : World) (A : Option Addr) (n c : Nat) (ss : List ByteArray) (hn : ss.length = n) (hm : n ≤ 140737488351232) (hsz : ∀ s ∈ ss, s.size ≤ 140737488351232) (hr : Rds w A (ss.map Value.string)) :
    Calls Try.prog 61 #[.slice A n c] w (PutPost ss w) := by
  have HR := Lib.hid hr
  have HN := Lib.hid hn
  have HS := Lib.hid hsz
  clear hr hn hsz
  have hlen := numB_len9 (n := n) (by omega)
  go_enter Try.func61, Try.ntmps61
  go_wp2_with fail
  refine (num_any w w.heap.size (.slice none 0 0) [] (World.ownsRow_nil _ _ _ _) (Nat.le_refl _) n (by omega) (by simp)).mono ?_
  rintro e w1 ⟨v, rfl, hown, hg⟩
  have HO1 : Hid (w1.ownsRow w.heap.size 5 1 v (numB n).length (bytesV (numB n))) := hown
  have HX1 : Hid (Below w.heap.size w w1) := (Below.refl _ _).grown hg (Nat.le_refl _) (fun k hk => by simp [Value.ownBlock] at hk)
  clear hown hg
  go_wp2
  go_loopw [4, 12] (fun x i wr => ∃ (k : Nat) (bs : List UInt8), k ≤ n ∧ i = .int .i64 (k : Int) ∧ Hid (bs = numB n ++ textsB (ss.take k)) ∧ bs.length ≤ 1048576 ∧ Hid (wr.ownsRow w.heap.size 5 1 x bs.length (bytesV bs)) ∧ Hid (Below w.heap.size w wr)) (fun _ i _ => n - (intOf i).toNat)
  case atStart => exact ⟨0, numB n, by omega, rfl, by show _ = _; simp [textsB], by omega, HO1, HX1⟩
  case round =>
    clear HO1 HX1
    obtain ⟨k, bs, hk, rfl, HB, hbl, HO, HX⟩ := hrel
    by_cases h8 : k < n
    · have hki : (k : Int) < n := by omega
      have hk' : k < ss.length := by rw [HN.out]; exact h8
      obtain ⟨a, rfl, hb⟩ := HR.out.map k hk'
      have hb1 := cell_ext HX.out (Nat.le_refl _) hb
      have hsk := HS.out ss[k] (List.getElem_mem hk')
      have HT := Lib.hid (textsB_step hk')
      clear hb
      have HP : Hid ((putB ss).length = (numB n).length + (textsB ss).length) := by show _ = _; unfold putB; rw [List.length_append, HN.out]
      have HTL := Lib.hid (textsB_take_le ss (k + 1))
      have HTB := Lib.hid (textB_len ss[k])
      generalize ss[k] = s at *
      have hl9 := numB_len9 (n := s.size) (by omega)
      go_wp2_with fail
      refine (num_any wr w.heap.size _ bs HO.out HX.out.size s.size (by omega) (by omega)).mono ?_
      rintro e w2 ⟨v2, rfl, hown2, hg2⟩
      have HX2 : Hid (Below w.heap.size w w2) := HX.out.grown hg2 HX.out.size (fun k hk => (HO.out.lt k hk).1)
      obtain ⟨A2, c2, rfl, _, _, _, _, _⟩ := own_rds hown2
      have HO2 := Lib.hid hown2
      clear hown2 hg2
      have HL2 : Hid ((bs ++ numB s.size).length = bs.length + (numB s.size).length) := List.length_append
      have hl2 := HL2.out
      obtain ⟨L2, hL2⟩ : ∃ L2, L2 = (bs ++ numB s.size).length := ⟨_, rfl⟩
      rw [← hL2] at hl2 ⊢
      have HL2' := Lib.hid hL2
      have hl2a : L2 ≤ bs.length + 9 := by omega
      have HLE := Lib.hid hl2
      clear hL2 hl2
      have HO2L : Hid (w2.ownsRow w.heap.size 5 1 (.slice A2 L2 c2) L2 (bytesV (bs ++ numB s.size))) := by
        show World.ownsRow _ _ _ _ _ _ _; rw [HL2'.out]; exact HO2.out
      by_cases hbig : (1048576 : Int) - (L2 : Int) < (s.size : Int)
      · have HBIG : Hid (1048576 < (putB ss).length) := by
          show _ < _
          have h1 := HP.out; have h2 := HTL.out; have h3 := HTB.out
          have h4 := congrArg List.length HT.out
          have h5 := congrArg List.length HB.out
          have hl2 := HLE.out
          rw [List.length_append] at h4 h5
          omega
        go_wp2
        go_ret2
        exact ⟨HX2.out, .inr ⟨HBIG.out, rfl⟩⟩
      · have hsb : L2 + s.size ≤ 140737488355328 := by omega
        go_wp2_with (at_builtin; refine wp_appS rfl _ _ 23 9 rfl w.heap.size 5 Try.underlying23 Try.underlying9 info_b8 _ L2 (bs ++ numB s.size) rfl HO2L.out s rfl hsb HX2.out.size ?_; intro v' w' hown' hg')
        have HO3 : Hid (w'.ownsRow w.heap.size 5 1 v' ((bs ++ numB s.size) ++ sb s).length (bytesV ((bs ++ numB s.size) ++ sb s))) := by
          show World.ownsRow _ _ _ _ _ _ _
          rw [List.length_append, sb_len, ← HL2'.out]; exact hown'
        have HX3 : Hid (Below w.heap.size w w') := HX2.out.grown hg' HX2.out.size (fun k hk => (HO2L.out.lt k hk).1)
        clear hown' hg'
        go_roundw
        case rel =>
          refine ⟨k + 1, (bs ++ numB s.size) ++ sb s, by omega, by go_num, ?_, ?_, HO3, HX3⟩
          · show _ = _; rw [HT.out, HB.out]; simp [textB]
          · rw [List.length_append, sb_len, ← HL2'.out]; omega
        case measure => simp [intOf]; omega
    · obtain rfl : k = n := by omega
      have hki : ¬ (k : Int) < k := by omega
      have HE : Hid (bs = putB ss) := by
        show _ = _
        rw [HB.out, List.take_of_length_le (by rw [HN.out]; exact Nat.le_refl _)]
        unfold putB; rw [HN.out]
      obtain ⟨A2, c2, rfl, _, _, _, _, _⟩ := own_rds HO.out
      have hbi : ¬ (1048576 : Int) < (bs.length : Int) := by omega
      go_wp2
      go_ret2
      refine ⟨HX.out, .inl ⟨by rw [← HE.out]; exact hbl, _, rfl, ?_⟩⟩
      rw [← HE.out]; exact HO.out
end Go.Proofs.Ytjpcfpffbicpnaa

end
section
set_option linter.unusedVariables false
set_option linter.unusedSimpArgs false
namespace Lec
open Go Go.RowKit
theorem and_tab : ∀ x, x < 256 → x &&& 127 = x % 128 := by decide +kernel
theorem and127 (c : UInt8) : bits BinOp.and IntKind.u8 ((c.toNat : Nat) : Int) 127 = ((c.toNat % 128 : Nat) : Int) := by
  have h := u8_and_nat c.toNat 127 c.toNat_lt (by omega)
  rw [show (127 : Int) = ((127 : Nat) : Int) from rfl, h, and_tab _ c.toNat_lt]

theorem digit_bits (m c k : Nat) (hk : k ≤ 8) (hm : m < 128 ^ k) : bits BinOp.or IntKind.i64 (m : Int) (wrap64 (((c : Nat) : Int) % 128 * 2 ^ (7 * k))) = ((m + c % 128 * 128 ^ k : Nat) : Int) := by
  have hp : (128 : Nat) ^ k = 2 ^ (7 * k) := by rw [Nat.pow_mul]
  have hle : (2 : Nat) ^ (7 * k) ≤ 2 ^ 56 := Nat.pow_le_pow_right (by omega) (by omega)
  have hb : c % 128 * 2 ^ (7 * k) ≤ 127 * 2 ^ 56 := Nat.mul_le_mul (by omega) hle
  have e : ((c : Nat) : Int) % 128 * 2 ^ (7 * k) = ((c % 128 * 2 ^ (7 * k) : Nat) : Int) := by rw [Int.natCast_mul, Int.natCast_pow]; rfl
  have hw : wrap64 ((c % 128 * 2 ^ (7 * k) : Nat) : Int) = ((c % 128 * 2 ^ (7 * k) : Nat) : Int) := by
    unfold wrap64; omega
  rw [e, hw, hp]
  rw [hp] at hm
  rw [i64_or_nat _ _ (by omega) (by omega), Nat.add_comm, Nat.mul_comm, Nat.two_pow_add_eq_or_of_lt hm, Nat.or_comm]

theorem u8_lt' (b : UInt8) : b.toNat < 256 := b.toNat_lt

def refR (bs : List UInt8) : Int × Int := match getB 0 0 bs with | some (m, k) => ((m : Int), (k : Int)) | none => (0, 0)
def getR (bs : List UInt8) : Int × Int × Int := match getB 0 0 bs with | some (m, k) => ((m : Int), (k : Int), 0) | none => (0, 0, 1)
end Lec
namespace Go.Proofs.Ytjpcfpffbicpnaa
open Go.RowKit Lec

set_option maxRecDepth 100000 in
theorem GetNum_any (w : World) (A : Option Addr) (n c : Nat) (bs : List UInt8) (hn : bs.length = n) (hm : n ≤ 9223372036854775807) (hr : Rds w A (bytesV bs)) :
    Calls Try.prog 86 #[.slice A n c] w fun e w' => e = .returned (.tuple #[.int .i64 (getR bs).1, .int .i64 (getR bs).2.1, .int .i64 (getR bs).2.2]) ∧ w = w' := by
  have HR := Lib.hid hr
  have HN := Lib.hid hn
  clear hr hn
  go_enter Try.func86, Try.ntmps86
  go_wp2
  go_loop [2, 9] (fun a i => ∃ k m : Nat, k ≤ n ∧ k ≤ 9 ∧ i = .int .i64 (k : Int) ∧ a = .int .i64 (m : Int) ∧ Hid (m < 128 ^ k) ∧ Hid (getB 0 0 bs = getB k m (bs.drop k))) (fun _ i => n - (intOf i).toNat)
  case atStart => exact ⟨0, 0, by omega, by omega, rfl, rfl, by show _ < _; omega, rfl⟩
  case round =>
    obtain ⟨k, m, hk, hk9, rfl, rfl, HMK, HG⟩ := hrel
    by_cases h8 : k < n
    · have hk' : k < bs.length := by rw [HN.out]; exact h8
      obtain ⟨a, rfl, hb⟩ := HR.out.map k hk'
      have hki : (k : Int) < n := by omega
      have han := and127 bs[k]
      have hd : bs.drop k = bs[k] :: bs.drop (k + 1) := (List.drop_eq_getElem_cons hk')
      have hcl := u8_lt' bs[k]
      have HGS : Hid (getB 0 0 bs = if k = 9 then none else if bs[k].toNat < 128 then (if bs[k].toNat = 0 ∧ 0 < k then none else some (m + bs[k].toNat % 128 * 128 ^ k, k + 1)) else getB (k + 1) (m + bs[k].toNat % 128 * 128 ^ k) (bs.drop (k + 1))) := by
        have := HG.out; rw [hd] at this; exact this
      clear hd HG
      by_cases h9 : k = 9
      · have h9i : ((k : Int) == 9) = true := by rw [beq_iff_eq]; omega
        have HR2 : Hid (getR bs = (0, 0, 1)) := by show _ = _; unfold getR; rw [HGS.out, if_pos h9]
        clear h9
        go_wp2
        go_ret3
        exact ⟨by rw [HR2.out]; rfl, rfl⟩
      · have h9i : ((k : Int) == 9) = false := by rw [beq_eq_false_iff_ne]; omega
        have hk8 : k ≤ 8 := by omega
        have HGT : Hid (getB 0 0 bs = if bs[k].toNat < 128 then (if bs[k].toNat = 0 ∧ 0 < k then none else some (m + bs[k].toNat % 128 * 128 ^ k, k + 1)) else getB (k + 1) (m + bs[k].toNat % 128 * 128 ^ k) (bs.drop (k + 1))) := by
          have := HGS.out; rwa [if_neg h9] at this
        have hdb := digit_bits m bs[k].toNat k hk8 HMK.out
        have HMB : Hid (m + bs[k].toNat % 128 * 128 ^ k < 128 ^ (k + 1)) := by
          show _ < _
          rw [Nat.pow_succ]
          have h1 : bs[k].toNat % 128 * 128 ^ k ≤ 127 * 128 ^ k := Nat.mul_le_mul_right _ (by omega)
          have := HMK.out
          omega
        clear HGS h9 HMK
        generalize m + bs[k].toNat % 128 * 128 ^ k = m2 at *
        by_cases hc : bs[k].toNat < 128
        · have hci : (bs[k].toNat : Int) < 128 := by omega
          by_cases hz : bs[k].toNat = 0 ∧ 0 < k
          · have hzi : ((bs[k].toNat : Int) == 0) = true := by rw [beq_iff_eq]; omega
            have hki0 : (0 : Int) < (k : Int) := by omega
            have HR2 : Hid (getR bs = (0, 0, 1)) := by show _ = _; unfold getR; rw [HGT.out, if_pos hc, if_pos hz]
            clear hz hdb
            go_wp2
            go_ret3
            exact ⟨by rw [HR2.out]; rfl, rfl⟩
          · have HR2 : Hid (getR bs = ((m2 : Int), ((k + 1 : Nat) : Int), 0)) := by show _ = _; unfold getR; rw [HGT.out, if_pos hc, if_neg hz]
            by_cases hz0 : bs[k].toNat = 0
            · have hki0 : ¬ (0 : Int) < (k : Int) := by omega
              have hzi : ((bs[k].toNat : Int) == 0) = true := by rw [beq_iff_eq]; omega
              clear hz hz0
              go_wp2
              go_ret3
              exact ⟨by rw [HR2.out]; rfl, rfl⟩
            · have hzi : ((bs[k].toNat : Int) == 0) = false := by rw [beq_eq_false_iff_ne]; omega
              clear hz hz0
              go_wp2
              go_ret3
              exact ⟨by rw [HR2.out]; rfl, rfl⟩
        · have hci : ¬ (bs[k].toNat : Int) < 128 := by omega
          have HG2 : Hid (getB 0 0 bs = getB (k + 1) m2 (bs.drop (k + 1))) := by show _ = _; rw [HGT.out, if_neg hc]
          clear HGT
          go_wp2
          go_round
          case rel => exact ⟨k + 1, m2, by omega, by omega, by go_num, rfl, HMB, HG2⟩
          case measure => simp [intOf]; omega
    · obtain rfl : k = n := by omega
      have hki : ¬ (k : Int) < k := by omega
      have HR2 : Hid (getR bs = (0, 0, 1)) := by
        show _ = _; unfold getR; rw [HG.out, List.drop_eq_nil_of_le (by rw [HN.out]; exact Nat.le_refl _)]; rfl
      go_wp2
      go_ret3
      exact ⟨by rw [HR2.out]; rfl, rfl⟩

end Go.Proofs.Ytjpcfpffbicpnaa

end
section
set_option linter.unusedVariables false
set_option linter.unusedSimpArgs false
namespace Lec
open Go Go.RowKit
def bytesOf (bs : List UInt8) : ByteArray := ⟨bs.toArray⟩
theorem conv_str {P : Program} (w : World) (src dst e : TypeId) (hs : P.underlying src = some (.slice e)) (he : P.underlying e = some (.int .u8)) (hd : P.underlying dst = some .string)
    (A : Option Addr) (n c : Nat) (bs : List UInt8) (hn : bs.length = n) (h : Rds w A (bytesV bs)) : (convert src dst (.slice A n c)).run P w = .ok (.string (bytesOf bs)) w := by
  rw [run_convert_bytes_string w src dst e _ n c hs he hd]
  cases A with
  | none =>
    have hb : bs = [] := by
      cases bs with
      | nil => rfl
      | cons b bs => obtain ⟨a, e, _⟩ := h 0 _ rfl; cases e
    subst hb
    simp [Conv.bytesToString]; rfl
  | some ad =>
    have hl : (loadCells ad n).run P w = .ok ((bs.map fun b => (b.toNat : Int)).map (Value.int .u8)).toArray w := by
      have := run_loadCells_list (P := P) w ad ((bs.map fun b => (b.toNat : Int)).map (Value.int .u8)) (fun j v hj => by
        obtain ⟨a, e, hc⟩ := h j v (by rw [← hj, List.map_map]; rfl)
        rw [Option.some.inj e]; exact hc)
      simpa [hn] using this
    rw [run_bytesToString w ad n c _ hl, foldl_push_bytes]
    have e : (bs.map fun b => (b.toNat : Int)).map (fun n => UInt8.ofNat n.toNat) = bs := by
      rw [List.map_map]
      conv => rhs; rw [← List.map_id bs]
      apply List.map_congr_left
      intro b _
      simp
    rw [e]
    simp [bytesOf, ByteArray.empty, ByteArray.emptyWithCapacity]
    rfl
end Lec

end
section
set_option linter.unusedVariables false
set_option linter.unusedSimpArgs false
namespace Lec
open Go Go.RowKit
/-- A number of at most what is left, and what is left then. -/
def numG (bs : List UInt8) : Option (Nat × List UInt8) := match getB 0 0 bs with
  | some (n, k) => if n ≤ bs.length - k then some (n, bs.drop k) else none
  | none => none
def rdN (bad : Bool) (bs : List UInt8) : Option (Nat × List UInt8) := if bad then none else numG bs
def textsG : Nat → List UInt8 → Option (List ByteArray × List UInt8)
  | 0, r => some ([], r)
  | n + 1, r => match numG r with
    | none => none
    | some (m, r1) => match textsG n (r1.drop m) with
      | none => none
      | some (l, r2) => some (bytesOf (r1.take m) :: l, r2)
def finG (n : Nat) (acc : List ByteArray) (r : List UInt8) : Option (List ByteArray) := match textsG n r with
  | some (l, []) => some (acc ++ l)
  | _ => none
/-- The texts that bytes are, if they are. -/
def getL (bs : List UInt8) : Option (List ByteArray) := if 1048576 < bs.length then none else match numG bs with
  | none => none
  | some (n, r) => finG n [] r
/-- A reader that lies at p: what is left, whether something was wrong. -/
structure Rdr (w : World) (p : Nat) (bs : List UInt8) (bad : Bool) : Prop where
  ex : ∃ A c, w.cell? ⟨p, 0, none⟩ = some (.slice A bs.length c) ∧ bs.length ≤ c ∧ Rds w A (bytesV bs) ∧ (∀ a, A = some a → 0 < bs.length → a.block < p)
  bad : w.cell? ⟨p, 1, none⟩ = some (.bool bad)
  f0 : w.frozen? ⟨p, 0, none⟩ = false
  f1 : w.frozen? ⟨p, 1, none⟩ = false
theorem setCell_grown (w : World) (p o : Nat) (v : Value) : w.grownBy (w.setCell ⟨p, o, none⟩ v) (some p) :=
  ⟨rfl, rfl, rfl, by simp [World.setCell], fun k _ hne => Below.heap_setCell w ⟨p, o, none⟩ v k (fun e => hne (by rw [e]))⟩
theorem rds_set {w : World} {A : Option Addr} {vs : List Value} {p o : Nat} {v : Value} (h : Rds w A vs) (hA : ∀ a, A = some a → 0 < vs.length → a.block < p) : Rds (w.setCell ⟨p, o, none⟩ v) A vs := by
  intro i u hu
  obtain ⟨a, e, hc⟩ := h i u hu
  refine ⟨a, e, (cell_set_far v ?_).trans hc⟩
  rw [add_block]; exact Nat.ne_of_lt (hA a e (Nat.lt_of_le_of_lt (Nat.zero_le _) (List.getElem?_eq_some_iff.1 hu).1))
theorem Rdr.wrong {w : World} {p : Nat} {bs : List UInt8} {b : Bool} (h : Rdr w p bs b) : Rdr (w.setCell ⟨p, 1, none⟩ (.bool true)) p bs true := by
  obtain ⟨A, c, h0, h1, h2, h3⟩ := h.ex
  exact ⟨⟨A, c, (cell_set_off _ (by omega)).trans h0, h1, rds_set h2 (by simpa using h3), h3⟩, cell_set_self _ h.bad, (frozen_set _).trans h.f0, (frozen_set _).trans h.f1⟩
theorem Rdr.on {w : World} {p : Nat} {bs : List UInt8} {b : Bool} {A : Option Addr} {c : Nat} (h : Rdr w p bs b) (h0 : w.cell? ⟨p, 0, none⟩ = some (.slice A bs.length c)) (h1 : bs.length ≤ c) (h2 : Rds w A (bytesV bs)) (h3 : ∀ a, A = some a → 0 < bs.length → a.block < p)
    (k : Nat) (hk : k ≤ bs.length) : Rdr (w.setCell ⟨p, 0, none⟩ (.slice (if c = k then A else A.map (·.add k)) (bs.length - k) (c - k))) p (bs.drop k) b := by
  have hA : ∀ a, (if c = k then A else A.map (·.add k)) = some a → 0 < (bs.drop k).length → a.block < p := by
    intro a ha hl
    rw [List.length_drop] at hl
    split at ha
    · exact h3 a ha (by omega)
    · cases A with
      | none => cases ha
      | some x => cases ha; rw [add_block]; exact h3 x rfl (by omega)
  refine ⟨⟨(if c = k then A else A.map (·.add k)), c - k, ?_, ?_, rds_set ?_ (by simpa using hA), hA⟩, (cell_set_off _ (by omega)).trans h.bad, (frozen_set _).trans h.f0, (frozen_set _).trans h.f1⟩
  · rw [List.length_drop]; exact cell_set_self _ h0
  · rw [List.length_drop]; omega
  · have := h2.drop1 (k := k) (by simpa using hk) (by simpa using h1)
    rwa [map_drop] at this
theorem Rdr.grown {w w' : World} {p : Nat} {bs : List UInt8} {b : Bool} {row : Option Nat} (h : Rdr w p bs b) (hg : w.grownBy w' row) (hr : ∀ k, row = some k → p < k) : Rdr w' p bs b := by
  obtain ⟨A, c, h0, h1, h2, h3⟩ := h.ex
  have hp : p < w.heap.size := by have := World.block_lt_of_cell? w _ h0; exact this
  have hb : ∀ k, k ≤ p → w'.heap[k]? = w.heap[k]? := fun k hk => hg.block k (by omega) (fun e => by have := hr k e.symm; omega)
  refine ⟨⟨A, c, (World.cell?_of_block (hb p (Nat.le_refl _))).trans h0, h1, ?_, h3⟩, (World.cell?_of_block (hb p (Nat.le_refl _))).trans h.bad, (World.frozen?_of_block (hb p (Nat.le_refl _))).trans h.f0, (World.frozen?_of_block (hb p (Nat.le_refl _))).trans h.f1⟩
  intro i u hu
  obtain ⟨a, e, hc⟩ := h2 i u hu
  refine ⟨a, e, (World.cell?_of_block (hb _ ?_)).trans hc⟩
  rw [add_block]; exact Nat.le_of_lt (h3 a e (by have := (List.getElem?_eq_some_iff.1 hu).1; simp at this; omega))
theorem grown_same {w w1 w2 : World} {row : Option Nat} (h1 : w.grownBy w1 row) (h2 : w1.grownBy w2 row) : w.grownBy w2 row :=
  ⟨h2.os.trans h1.os, h2.tape.trans h1.tape, h2.output.trans h1.output, Nat.le_trans h1.size h2.size, fun k hk hne => (h2.block k (Nat.lt_of_lt_of_le hk h1.size) hne).trans (h1.block k hk hne)⟩
theorem rds_blk {w : World} {A : Option Addr} {n c : Nat} {bs : List UInt8} (hn : bs.length = n) (hr : Rds w A (bytesV bs)) (hA : A = none → n = 0 ∧ c = 0) : True := trivial
theorem numG_len {bs r : List UInt8} {n : Nat} (h : numG bs = some (n, r)) : n ≤ r.length ∧ r.length ≤ bs.length := by
  unfold numG at h
  cases hg : getB 0 0 bs with
  | none => rw [hg] at h; cases h
  | some x =>
    obtain ⟨m, k⟩ := x
    rw [hg] at h
    by_cases hle : m ≤ bs.length - k
    · simp only [hle, if_true] at h
      obtain ⟨rfl, rfl⟩ := h
      simp; omega
    · simp [hle] at h
theorem finG_zero (acc : List ByteArray) (r : List UInt8) : finG 0 acc r = if r = [] then some acc else none := by
  unfold finG textsG
  cases r <;> simp
theorem finG_none {k : Nat} {acc : List ByteArray} {r : List UInt8} (h : numG r = none) : finG (k + 1) acc r = none := by
  unfold finG textsG; rw [h]
theorem finG_some {k m : Nat} {acc : List ByteArray} {r r1 : List UInt8} (h : numG r = some (m, r1)) : finG (k + 1) acc r = finG k (acc ++ [bytesOf (r1.take m)]) (r1.drop m) := by
  unfold finG
  have e : textsG (k + 1) r = match textsG k (r1.drop m) with | none => none | some (l, r2) => some (bytesOf (r1.take m) :: l, r2) := by
    conv => lhs; unfold textsG
    rw [h]
  rw [e]
  cases textsG k (r1.drop m) with
  | none => rfl
  | some x => obtain ⟨l, r2⟩ := x; cases r2 <;> simp
theorem getL_big {bs : List UInt8} (h : 1048576 < bs.length) : getL bs = none := by unfold getL; rw [if_pos h]
theorem getL_none {bs : List UInt8} (h : numG bs = none) : getL bs = none := by unfold getL; rw [h]; split <;> rfl
theorem getL_some {bs r : List UInt8} {n : Nat} (hb : ¬ 1048576 < bs.length) (h : numG bs = some (n, r)) : getL bs = finG n [] r := by unfold getL; rw [if_neg hb, h]
theorem rdr_new {w : World} {A : Option Addr} {c : Nat} {bs : List UInt8} {bad : Bool} {t : TypeId} (hnc : bs.length ≤ c) (hr : Rds w A (bytesV bs)) :
    Rdr (w.alloc (.cells #[.slice A bs.length c, .bool bad] t)) w.heap.size bs bad :=
  ⟨⟨A, c, by rw [cell_of_row _ _ _ _ _ _ (heap_alloc_new _ _)]; rfl, hnc, hr.ext ((Below.refl _ _).alloc (Nat.le_refl _) _) (Nat.le_refl _), fun a e hl => hr.blk e (by simpa using hl)⟩, by rw [cell_of_row _ _ _ _ _ _ (heap_alloc_new _ _)]; rfl,
    frozen_of_row _ _ _ _ _ (heap_alloc_new _ _), frozen_of_row _ _ _ _ _ (heap_alloc_new _ _)⟩
theorem below_of_grown {B p : Nat} {w w' : World} (hg : w.grownBy w' (some p)) (hp : B ≤ p) (hB : B ≤ w.heap.size) {W : World} (h : Below B W w) : Below B W w' :=
  h.grown hg hB (fun k hk => by cases hk; exact hp)
theorem getR_none {bs : List UInt8} (h : getB 0 0 bs = none) : getR bs = (0, 0, 1) := by unfold getR; rw [h]
theorem getR_some {bs : List UInt8} {n k : Nat} (h : getB 0 0 bs = some (n, k)) : getR bs = ((n : Int), (k : Int), 0) := by unfold getR; rw [h]
end Lec
namespace Go.Proofs.Ytjpcfpffbicpnaa
open Go.RowKit Lec

def NumPost (w : World) (p : Nat) (A : Option Addr) (n c : Nat) (bs : List UInt8) (bad : Bool) (e : Ending) (w' : World) : Prop :=
  (rdN bad bs = none ∧ e = .returned (.int .i64 0) ∧ w.setCell ⟨p, 1, none⟩ (.bool true) = w') ∨
  (∃ m k : Nat, rdN bad bs = some (m, bs.drop k) ∧ bad = false ∧ k ≤ n ∧ m ≤ n - k ∧ e = .returned (.int .i64 (m : Int)) ∧ w.setCell ⟨p, 0, none⟩ (.slice (if c = k then A else A.map (·.add k)) (n - k) (c - k)) = w')

set_option maxRecDepth 100000 in
theorem number_any (w : World) (p : Nat) (A : Option Addr) (n c : Nat) (bs : List UInt8) (bad : Bool) (hn : bs.length = n) (hnc : n ≤ c) (hm : n ≤ 9223372036854775807)
    (hc0 : w.cell? ⟨p, 0, none⟩ = some (.slice A n c)) (hc1 : w.cell? ⟨p, 1, none⟩ = some (.bool bad)) (hf0 : w.frozen? ⟨p, 0, none⟩ = false) (hf1 : w.frozen? ⟨p, 1, none⟩ = false) (hr : Rds w A (bytesV bs)) :
    Calls Try.prog 59 #[.pointer (some ⟨p, 0, none⟩)] w (NumPost w p A n c bs bad) := by
  have HR := Lib.hid hr
  have HN := Lib.hid hn
  clear hr hn
  go_enter Try.func59, Try.ntmps59
  go_wp2_with fail
  refine (GetNum_any w A n c bs HN.out hm HR.out).mono ?_
  rintro e wy ⟨rfl, rfl⟩
  cases hg : getB 0 0 bs with
  | none =>
    rw [getR_none hg]
    have HE : Hid (rdN bad bs = none) := by show _ = _; unfold rdN numG; rw [hg]; simp
    clear hg
    cases bad
    · go_wp2
      go_ret
      exact .inl ⟨HE.out, rfl, rfl⟩
    · go_wp2
      go_ret
      exact .inl ⟨HE.out, rfl, rfl⟩
  | some x =>
    obtain ⟨m, k⟩ := x
    rw [getR_some hg]
    have hbd := getB_bound bs 0 0 m k (by omega) (by omega) hg
    have hkn : k ≤ n := by rw [← HN.out]; omega
    cases bad
    · by_cases hle : m ≤ n - k
      · have HE : Hid (rdN false bs = some (m, bs.drop k)) := by show _ = _; unfold rdN numG; rw [hg]; simp [HN.out, hle]
        clear hg hbd
        have hi : ¬ ((n : Int) - (k : Int)) < (m : Int) := by omega
        have hck : ((c : Int) - (k : Int)).toNat = c - k := by omega
        have hnk : ((n : Int) - (k : Int)).toNat = n - k := by omega
        go_wp2
        all_goals
          go_ret
          exact .inr ⟨m, k, HE.out, rfl, hkn, hle, rfl, by first | rfl | (rw [if_pos rfl, Nat.sub_self]) | (rw [if_neg (by omega)])⟩
      · have HE : Hid (rdN false bs = none) := by show _ = _; unfold rdN numG; rw [hg]; simp [HN.out, hle]
        clear hg hbd
        have hi : ((n : Int) - (k : Int)) < (m : Int) := by omega
        go_wp2
        go_ret
        exact .inl ⟨HE.out, rfl, rfl⟩
    · have HE : Hid (rdN true bs = none) := rfl
      clear hg hbd
      go_wp2
      go_ret
      exact .inl ⟨HE.out, rfl, rfl⟩

/-- The number that a reader reads, and how it stands then. -/
theorem number_rdr (w : World) (p : Nat) (bs : List UInt8) (bad : Bool) (hm : bs.length ≤ 9223372036854775807) (hr : Rdr w p bs bad) :
    Calls Try.prog 59 #[.pointer (some ⟨p, 0, none⟩)] w fun e w' => w.grownBy w' (some p) ∧ w'.heap.size = w.heap.size ∧
      ((rdN bad bs = none ∧ e = .returned (.int .i64 0) ∧ Rdr w' p bs true) ∨ (∃ m k : Nat, rdN bad bs = some (m, bs.drop k) ∧ bad = false ∧ k ≤ bs.length ∧ m ≤ bs.length - k ∧ e = .returned (.int .i64 (m : Int)) ∧ Rdr w' p (bs.drop k) false)) := by
  obtain ⟨A, c, h0, h1, h2, h3⟩ := hr.ex
  refine (number_any w p A bs.length c bs bad rfl h1 hm h0 hr.bad hr.f0 hr.f1 h2).mono ?_
  rintro e w' (⟨g1, g2, rfl⟩ | ⟨m, k, g1, g2, g3, g4, g5, rfl⟩)
  · exact ⟨setCell_grown _ _ _ _, by simp [World.setCell], .inl ⟨g1, g2, hr.wrong⟩⟩
  · subst g2
    exact ⟨setCell_grown _ _ _ _, by simp [World.setCell], .inr ⟨m, k, g1, rfl, g3, g4, g5, hr.on h0 h1 h2 h3 k g3⟩⟩

set_option maxRecDepth 100000 in
/-- The text that a reader reads. -/
theorem text_rdr (w : World) (p : Nat) (bs : List UInt8) (bad : Bool) (hm : bs.length ≤ 9223372036854775807) (hr : Rdr w p bs bad) :
    Calls Try.prog 60 #[.pointer (some ⟨p, 0, none⟩)] w fun e w' => w.grownBy w' (some p) ∧ w'.heap.size = w.heap.size ∧
      ((rdN bad bs = none ∧ e = .returned (.string (bytesOf [])) ∧ Rdr w' p bs true) ∨ (∃ m r, rdN bad bs = some (m, r) ∧ e = .returned (.string (bytesOf (r.take m))) ∧ Rdr w' p (r.drop m) false)) := by
  have HR := Lib.hid hr
  clear hr
  go_enter Try.func60, Try.ntmps60
  go_wp2_with fail
  refine (number_rdr w p bs bad hm HR.out).mono ?_
  rintro e w1 ⟨hg, hsz, ⟨hE, rfl, hr1⟩ | ⟨m, k, hE, rfl, hk, hmk, rfl, hr1⟩⟩
  · obtain ⟨A, c, h0, h1, h2, h3⟩ := hr1.ex
    have hf0 := hr1.f0
    have hcv := conv_str w1 23 9 5 Try.underlying23 Try.underlying5 Try.underlying9 A 0 c [] rfl (Rds.nil _ _)
    have H2 := Lib.hid h2
    have HE := Lib.hid hE
    clear hE h2
    go_wp2
    all_goals
      go_ret
      refine ⟨grown_same hg (setCell_grown _ _ _ _), by simp [World.setCell]; exact hsz, .inl ⟨HE.out, rfl, ?_⟩⟩
      rw [setCell_same _ _ _ _ h0]; exact hr1
  · have hlm : (bs.drop k).length = bs.length - k := List.length_drop
    obtain ⟨A, c, h0, h1, h2, h3⟩ := hr1.ex
    have hon := fun hk => hr1.on h0 h1 h2 h3 m hk
    rw [hlm] at h0 h1 hon
    have HON := Lib.hid (hon hmk)
    have hf0 := hr1.f0
    have hcv := conv_str w1 23 9 5 Try.underlying23 Try.underlying5 Try.underlying9 A m c ((bs.drop k).take m) (by rw [List.length_take, hlm]; omega) (by have := h2.take m; rwa [map_take] at this)
    have H2 := Lib.hid h2
    have hcm : ((c : Int) - (m : Int)).toNat = c - m := by omega
    have hnm : (((bs.length - k : Nat) : Int) - (m : Int)).toNat = bs.length - k - m := by omega
    have HE := Lib.hid hE
    clear hE h2 hon
    go_wp2
    all_goals
      go_ret
      refine ⟨grown_same hg (setCell_grown _ _ _ _), by simp [World.setCell]; exact hsz, .inr ⟨m, bs.drop k, HE.out, rfl, ?_⟩⟩
      have hon := HON.out
      first | exact hon | (rw [if_pos (by omega)] at hon; exact hon) | (rw [if_pos (by omega), show c - m = 0 by omega] at hon; exact hon) | (rw [if_neg (by omega)] at hon; exact hon)

theorem info_str : (Try.prog.info? 9).map (fun i => (i.zero, i.size, i.bytes)) = some (some (.string ⟨#[]⟩), 1, 16) := by kernel_rfl

def GetPost (bs : List UInt8) (w : World) (e : Ending) (w' : World) : Prop :=
  Below w.heap.size w w' ∧
  ((getL bs = none ∧ e = .returned (.tuple #[.slice none 0 0, .int .i64 1])) ∨
   (∃ l v, getL bs = some l ∧ e = .returned (.tuple #[v, .int .i64 0]) ∧ w'.ownsRow w.heap.size 9 1 v l.length (l.map Value.string)))

theorem number_first (w : World) (p : Nat) (bs : List UInt8) (bad : Bool) (hbad : bad = decide (1048576 < bs.length)) (hm : bs.length ≤ 9223372036854775807) (hr : Rdr w p bs bad) :
    Calls Try.prog 59 #[.pointer (some ⟨p, 0, none⟩)] w fun e w' => w.grownBy w' (some p) ∧ w'.heap.size = w.heap.size ∧
      ∃ k rs bad', e = .returned (.int .i64 ((k : Nat) : Int)) ∧ k ≤ 1048576 ∧ rs.length ≤ bs.length ∧ Rdr w' p rs bad' ∧ getL bs = (if bad' then none else finG k [] rs) := by
  refine (number_rdr w p bs bad hm hr).mono ?_
  rintro e w' ⟨hg, hs, ⟨h1, h2, h3⟩ | ⟨m, k, h1, h2, h3, h4, h5, h6⟩⟩
  · refine ⟨hg, hs, 0, bs, true, h2, by omega, Nat.le_refl _, h3, ?_⟩
    by_cases hb : 1048576 < bs.length
    · rw [getL_big hb]; rfl
    · subst hbad
      rw [decide_eq_false hb] at h1
      rw [getL_none h1]; rfl
  · subst h2
    have hb : ¬ 1048576 < bs.length := by simpa using hbad
    have hl : (bs.drop k).length = bs.length - k := List.length_drop
    exact ⟨hg, hs, m, bs.drop k, false, h5, by omega, by omega, h6, by rw [getL_some hb h1]; rfl⟩

set_option maxRecDepth 100000 in
theorem Get_any (w : World) (A : Option Addr) (n c : Nat) (bs : List UInt8) (hn : bs.length = n) (hnc : n ≤ c) (hm : n ≤ 9223372036854775807) (hr : Rds w A (bytesV bs)) :
    Calls Try.prog 42 #[.slice A n c] w (GetPost bs w) := by
  subst hn
  have hdd : decide ((1048576 : Int) < (bs.length : Int)) = decide (1048576 < bs.length) := by congr 1; exact propext (by omega)
  have HR : Hid (Rdr (w.alloc (.cells #[.slice A bs.length c, .bool (decide ((1048576 : Int) < (bs.length : Int)))] 106)) w.heap.size bs (decide (1048576 < bs.length))) := by
    show Rdr _ _ _ _; rw [hdd]; exact rdr_new hnc hr
  clear hr
  have HDD := Lib.hid hdd
  clear hdd
  go_enter Try.func42, Try.ntmps42
  go_wp2_with fail
  refine (number_first _ w.heap.size bs _ rfl hm HR.out).mono ?_
  rintro e w1 ⟨hg, hsz, k0, rs0, bad0, rfl, hk0, hl0, hr0, hG0⟩
  have HR0 := Lib.hid hr0
  have HG0 := Lib.hid hG0
  have hp1 : w.heap.size + 1 ≤ w1.heap.size := by rw [hsz]; simp
  have HX0 : Hid (Below w.heap.size w w1) := below_of_grown hg (Nat.le_refl _) (by simp) ((Below.refl _ _).alloc (Nat.le_refl _) _)
  clear hr0 hG0 HR hg hsz
  go_wp2
  go_loopw [2, 5] (fun v i wr => ∃ (k : Nat) (acc : List ByteArray) (rs : List UInt8) (bad : Bool), i = .int .i64 (k : Int) ∧ acc.length + k ≤ 1048576 ∧ rs.length ≤ bs.length ∧ w.heap.size + 1 ≤ wr.heap.size ∧
      Hid (wr.ownsRow (w.heap.size + 1) 9 1 v acc.length (acc.map Value.string)) ∧ Hid (Rdr wr w.heap.size rs bad) ∧ Hid (Below w.heap.size w wr) ∧ Hid (getL bs = if bad then none else finG k acc rs)) (fun _ i _ => (intOf i).toNat)
  case atStart => exact ⟨k0, [], rs0, bad0, rfl, by simpa using hk0, hl0, hp1, World.ownsRow_nil _ _ _ _, HR0, HX0, HG0⟩
  case round =>
    clear HR0 HG0 HX0 hp1 hk0 hl0
    obtain ⟨k, acc, rs, bad, rfl, hak, hrl, hwp, HO, HRD, HX, HG⟩ := hrel
    obtain ⟨A1, c1, h0, h1, h2, h3⟩ := HRD.out.ex
    have hcb := HRD.out.bad
    have H2 := Lib.hid h2
    clear h2
    by_cases hk : 0 < k
    · obtain ⟨k, rfl⟩ : ∃ j, k = j + 1 := ⟨k - 1, by omega⟩
      have hki : (0 : Int) < ((k + 1 : Nat) : Int) := by omega
      cases bad
      · go_wp2_with fail
        refine (text_rdr wr w.heap.size rs false (by omega) HRD.out).mono ?_
        rintro e w2 ⟨hg, hsz, hE⟩
        obtain ⟨t, r', b', rfl, hr1, hlast, hrl'⟩ : ∃ t r' b', e = .returned (.string t) ∧ Rdr w2 w.heap.size r' b' ∧ (getL bs = if b' then none else finG k (acc ++ [t]) r') ∧ r'.length ≤ bs.length := by
          rcases hE with ⟨hE, rfl, hr1⟩ | ⟨m, r, hE, rfl, hr1⟩
          · exact ⟨_, rs, true, rfl, hr1, by rw [HG.out]; exact finG_none hE, hrl⟩
          · exact ⟨_, r.drop m, false, rfl, hr1, by rw [HG.out]; exact finG_some hE, by have := numG_len hE; rw [List.length_drop]; omega⟩
        have HO2 : Hid (w2.ownsRow (w.heap.size + 1) 9 1 u2 acc.length (acc.map Value.string)) := own_grown HO.out hg (fun k hk e => by have := (HO.out.lt k hk).1; have := Option.some.inj e; omega)
        have HX2 : Hid (Below w.heap.size w w2) := below_of_grown hg (Nat.le_refl _) (by omega) HX.out
        have HR2 := Lib.hid hr1
        have HL2 := Lib.hid hlast
        have hw2 : w.heap.size + 1 ≤ w2.heap.size := by omega
        clear hE hg hr1 hlast HO HX HG HRD hsz
        go_wp2_with (at_builtin; refine wp_app1 (w0 := w2) rfl rfl _ _ 38 rfl (w.heap.size + 1) 9 (.string ⟨#[]⟩) 1 16 Try.underlying38 info_str rfl (by decide) (by decide) _ acc.length _ rfl HO2.out rfl rfl (one_cell1 rfl) (by omega) (by omega) ?_; intro v' w' hown' hg' hb')
        have HR3 : Hid (Rdr w' w.heap.size r' b') := by
          have hr2 : ∀ o, Rdr (w2.alloc o) w.heap.size r' b' := fun o => HR2.out.grown (row := none) (grown_below (Below.alloc (Below.refl _ _) (Nat.le_refl _) _) (Nat.le_refl _)) (fun k e => by cases e)
          exact (hr2 _).grown hg' (fun k e => by have := (HO2.out.lt k e).1; omega)
        go_roundw
        case rel => exact ⟨k, acc ++ [t], r', b', by go_num, by simp; omega, hrl', by have := hb'.size; omega, by show World.ownsRow _ _ _ _ _ _ _; rw [List.map_append, List.length_append]; exact hown', HR3, HX2.out.trans (hb'.mono (by omega)), HL2⟩
        case measure => simp [intOf]
      · have HN : Hid (getL bs = none) := HG.out
        go_wp2
        go_ret2
        exact ⟨HX.out, .inl ⟨HN.out, rfl⟩⟩
    · obtain rfl : k = 0 := by omega
      cases bad
      · have HF : Hid (getL bs = if rs = [] then some acc else none) := by show _ = _; rw [HG.out]; exact finG_zero acc rs
        by_cases he : rs = []
        · have hl : rs.length = 0 := by rw [he]; rfl
          rw [hl] at h0
          go_wp2
          go_ret2
          exact ⟨HX.out, .inr ⟨acc, _, by rw [HF.out, if_pos he], rfl, own_lower HO.out (by omega)⟩⟩
        · have hl : (0 : Int) < (rs.length : Int) := by have := List.length_pos_iff.2 he; omega
          go_wp2
          go_ret2
          exact ⟨HX.out, .inl ⟨by rw [HF.out, if_neg he], rfl⟩⟩
      · have HN : Hid (getL bs = none) := HG.out
        go_wp2
        go_ret2
        exact ⟨HX.out, .inl ⟨HN.out, rfl⟩⟩
end Go.Proofs.Ytjpcfpffbicpnaa

end
section
set_option linter.unusedVariables false
set_option linter.unusedSimpArgs false
namespace Lec
theorem sb_bytesOf (x : List UInt8) : sb (bytesOf x) = x := rfl
theorem bytesOf_sb (s : ByteArray) : bytesOf (sb s) = s := by cases s; simp [bytesOf, sb]
theorem bytesOf_size (x : List UInt8) : (bytesOf x).size = x.length := by rw [← sb_len, sb_bytesOf]
theorem numG_numB {n : Nat} (hn : n < 9223372036854775808) (rest : List UInt8) : numG (numB n ++ rest) = if n ≤ rest.length then some (n, rest) else none := by
  unfold numG
  rw [getB_numB n 0 0 rest (by have := numB_len9 hn; omega) (by omega)]
  simp
theorem numG_split {bs r : List UInt8} {n : Nat} (h : numG bs = some (n, r)) : bs = numB n ++ r := by
  unfold numG at h
  cases hg : getB 0 0 bs with
  | none => rw [hg] at h; cases h
  | some x =>
    obtain ⟨m, k⟩ := x
    rw [hg] at h
    by_cases hle : m ≤ bs.length - k
    · simp only [hle, if_true] at h
      obtain ⟨rfl, rfl⟩ := h
      have := (numB_getB bs 0 0 _ _ (by omega) (by omega) hg).1
      simp at this
      rw [this, List.take_append_drop]
    · simp [hle] at h
theorem textsG_textsB : ∀ (ss : List ByteArray) (rest : List UInt8), (∀ s ∈ ss, s.size < 9223372036854775808) → textsG ss.length (textsB ss ++ rest) = some (ss, rest)
  | [], rest, _ => rfl
  | s :: ss, rest, h => by
    have e : textsB (s :: ss) ++ rest = numB s.size ++ (sb s ++ (textsB ss ++ rest)) := by simp [textsB, textB]
    have hg : numG (numB s.size ++ (sb s ++ (textsB ss ++ rest))) = some (s.size, sb s ++ (textsB ss ++ rest)) := by
      rw [numG_numB (h s (by simp)), if_pos (by rw [List.length_append, sb_len]; omega)]
    rw [e, List.length_cons]
    unfold textsG
    rw [hg]
    have hd : (sb s ++ (textsB ss ++ rest)).drop s.size = textsB ss ++ rest := by rw [← sb_len, List.drop_left]
    have ht : (sb s ++ (textsB ss ++ rest)).take s.size = sb s := by rw [← sb_len, List.take_left]
    have := textsG_textsB ss rest (fun x hx => h x (by simp [hx]))
    show (match textsG ss.length ((sb s ++ (textsB ss ++ rest)).drop s.size) with | none => none | some (l, r2) => some (bytesOf ((sb s ++ (textsB ss ++ rest)).take s.size) :: l, r2)) = _
    rw [hd, ht, this, bytesOf_sb]
theorem textsG_split : ∀ (n : Nat) (r : List UInt8) (l : List ByteArray) (r2 : List UInt8), textsG n r = some (l, r2) → r = textsB l ++ r2 ∧ l.length = n
  | 0, r, l, r2, h => by
    unfold textsG at h
    obtain ⟨rfl, rfl⟩ := Prod.mk.injEq .. ▸ Option.some.inj h
    exact ⟨rfl, rfl⟩
  | n + 1, r, l, r2, h => by
    unfold textsG at h
    cases hg : numG r with
    | none => rw [hg] at h; cases h
    | some x =>
      obtain ⟨m, r1⟩ := x
      rw [hg] at h
      have h' : (match textsG n (r1.drop m) with | none => none | some (l, r2) => some (bytesOf (r1.take m) :: l, r2)) = some (l, r2) := h
      cases ht : textsG n (r1.drop m) with
      | none => rw [ht] at h'; cases h'
      | some y =>
        obtain ⟨l', r'⟩ := y
        rw [ht] at h'
        have h2 := Option.some.inj h'
        obtain ⟨rfl, rfl⟩ := Prod.mk.injEq .. ▸ h2
        obtain ⟨e, hl⟩ := textsG_split n _ _ _ ht
        have hm := (numG_len hg).1
        refine ⟨?_, by rw [List.length_cons, hl]⟩
        have hs : (bytesOf (r1.take m)).size = m := by rw [bytesOf_size, List.length_take]; omega
        have e2 : textsB (bytesOf (r1.take m) :: l') ++ r' = numB m ++ (r1.take m ++ (textsB l' ++ r')) := by
          simp only [textsB, List.flatMap_cons, textB, hs, sb_bytesOf, List.append_assoc]
        rw [e2, ← e, List.take_append_drop]; exact numG_split hg
theorem textB_pos (s : ByteArray) : 0 < (textB s).length := by
  have := List.length_pos_iff.2 (numB_ne s.size); rw [textB_len]; omega
theorem textsB_len_lo : ∀ ss : List ByteArray, ss.length ≤ (textsB ss).length
  | [] => by simp
  | s :: ss => by
    have := textsB_len_lo ss
    have h := textB_pos s
    have e : textsB (s :: ss) = textB s ++ textsB ss := by simp [textsB]
    rw [e, List.length_append, List.length_cons]; omega
/-- Small: their numbers are numbers. -/
def fits (L : List ByteArray) : Prop := L.length < 9223372036854775808 ∧ ∀ s ∈ L, s.size < 9223372036854775808
theorem getL_more {L : List ByteArray} (h : fits L) (rest : List UInt8) (hb : (putB L ++ rest).length ≤ 1048576) : getL (putB L ++ rest) = if rest = [] then some L else none := by
  unfold getL
  rw [if_neg (by omega)]
  have e : putB L ++ rest = numB L.length ++ (textsB L ++ rest) := by unfold putB; rw [List.append_assoc]
  have hl := textsB_len_lo L
  rw [e, numG_numB h.1, if_pos (by rw [List.length_append]; omega)]
  show finG L.length [] (textsB L ++ rest) = _
  unfold finG
  rw [textsG_textsB L rest h.2]
  cases rest <;> simp
theorem getL_put {L : List ByteArray} (h : fits L) (hb : (putB L).length ≤ 1048576) : getL (putB L) = some L := by
  have := getL_more h [] (by simpa using hb)
  simpa using this
theorem getL_behind {L : List ByteArray} (h : fits L) (hb : (putB L).length + 1 ≤ 1048576) : getL (putB L ++ [0]) = none := by
  have := getL_more h [0] (by simpa using hb)
  simpa using this
theorem getL_split {bs : List UInt8} {l : List ByteArray} (h : getL bs = some l) : bs = putB l := by
  unfold getL at h
  by_cases hb : 1048576 < bs.length
  · rw [if_pos hb] at h; cases h
  · rw [if_neg hb] at h
    cases hg : numG bs with
    | none => rw [hg] at h; cases h
    | some x =>
      obtain ⟨n, r⟩ := x
      rw [hg] at h
      have h' : finG n [] r = some l := h
      unfold finG at h'
      cases ht : textsG n r with
      | none => rw [ht] at h'; cases h'
      | some y =>
        obtain ⟨l', r'⟩ := y
        rw [ht] at h'
        cases r' with
        | cons a b => cases h'
        | nil =>
          obtain rfl : l' = l := by simpa using h'
          obtain ⟨e, hl⟩ := textsG_split n _ _ _ ht
          rw [numG_split hg, e, ← hl]; simp [putB]
theorem getL_len {bs : List UInt8} {l : List ByteArray} (h : getL bs = some l) : bs.length ≤ 1048576 := by
  unfold getL at h
  by_cases hb : 1048576 < bs.length
  · rw [if_pos hb] at h; cases h
  · omega
theorem lens_le (l : List ByteArray) : l.length ≤ (putB l).length ∧ ∀ s ∈ l, s.size ≤ (putB l).length := by
  have h1 := textsB_len_lo l
  have h2 : (putB l).length = (numB l.length).length + (textsB l).length := by unfold putB; rw [List.length_append]
  refine ⟨by omega, fun s hs => ?_⟩
  have : (textB s).length ≤ (textsB l).length := by
    clear h1 h2
    induction l with
    | nil => cases hs
    | cons x l ih =>
      have e : textsB (x :: l) = textB x ++ textsB l := by simp [textsB]
      rw [e, List.length_append]
      rcases List.mem_cons.1 hs with rfl | hs
      · omega
      · have := ih hs; omega
  have h3 := textB_len s
  omega
theorem fits_of_len {l : List ByteArray} (h : (putB l).length < 9223372036854775808) : fits l := by
  have h1 := textsB_len_lo l
  have h2 : (putB l).length = (numB l.length).length + (textsB l).length := by unfold putB; rw [List.length_append]
  refine ⟨by omega, fun s hs => ?_⟩
  have : (textB s).length ≤ (textsB l).length := by
    clear h1 h2 h
    induction l with
    | nil => cases hs
    | cons x l ih =>
      have e : textsB (x :: l) = textB x ++ textsB l := by simp [textsB]
      rw [e, List.length_append]
      rcases List.mem_cons.1 hs with rfl | hs
      · omega
      · have := ih hs; omega
  have h3 := textB_len s
  omega
/-- No beginning is texts' bytes. -/
theorem getL_cut {L : List ByteArray} (h : fits L) (hb : (putB L).length ≤ 1048576) (k : Nat) (hk : k < (putB L).length) : getL ((putB L).take k) = none := by
  cases hg : getL ((putB L).take k) with
  | none => rfl
  | some l =>
    exfalso
    have e := getL_split hg
    have hlt : (putB l).length = k := by rw [← e, List.length_take]; omega
    have hf : fits l := fits_of_len (by omega)
    have hd : putB l ++ (putB L).drop k = putB L := by rw [← e, List.take_append_drop]
    have h1 := getL_more hf ((putB L).drop k) (by rw [hd]; exact hb)
    rw [hd, getL_put h hb, if_neg (by intro e; have := congrArg List.length e; rw [List.length_drop] at this; simp at this; omega)] at h1
    cases h1
end Lec

end