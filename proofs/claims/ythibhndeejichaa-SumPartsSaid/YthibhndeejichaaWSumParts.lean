/- The walk of the law SumParts. -/
import Derived.Test.YthibhndeejichaaWakes9
import Derived.Test.YthibhndeejichaaWithin
import Derived.Test.YthibhndeejichaaCut
import Derived.Test.YthibhndeejichaaQuiet
import Derived.Test.YthibhndeejichaaAsk9
import Derived.Test.YthibhndeejichaaHelpCB
set_option linter.unusedVariables false
set_option linter.unusedSimpArgs false
namespace Go.Proofs.Ythibhndeejichaa
open Go.RowKit Lec

theorem pow_small : ∀ q, q < 8 → (2 : Int) ^ q % 256 = ((2 ^ q : Nat) : Int) ∧ 2 ^ q < 256 ∧ 0 < 2 ^ q := by decide
theorem turn_lt (b : UInt8) {q : Nat} (h : q < 8) : b.toNat ^^^ 2 ^ q < 256 := Nat.xor_lt_two_pow (n := 8) b.toNat_lt (pow_small q h).2.1
theorem turn_bits (b : UInt8) {q : Nat} (h : q < 8) : bits BinOp.xor IntKind.u8 ((b.toNat : Nat) : Int) (2 ^ q % 256) = ((b.toNat ^^^ 2 ^ q : Nat) : Int) := by
  rw [(pow_small q h).1]; exact u8_xor_nat _ _ b.toNat_lt (pow_small q h).2.1
theorem turn_ne {y b : UInt8} {q : Nat} (h : y.toNat = b.toNat ^^^ 2 ^ q) : y ≠ b := by
  intro e
  rw [e] at h
  have h2 : b.toNat ^^^ 0 = b.toNat ^^^ 2 ^ q := by rw [Nat.xor_zero]; exact h
  have := xor_inj_left h2
  have := Nat.two_pow_pos q
  omega

set_option maxRecDepth 100000 in
set_option maxHeartbeats 1000000 in
theorem SumParts_walk (W : World) (A : Option Addr) (c : Nat) (xs : List (Nat × List UInt8 × Int)) (hrow : Row Ask9 W A xs) (hlc : xs.length ≤ c) (hcm : c ≤ maxLen) (hnone : A = none → xs.length = 0 ∧ c = 0) (hby : c * 40 ≤ reachBytes) :
    Calls Try.prog 4 #[.slice A xs.length c] W fun e w' => e = .returned (.bool true) ∧ Below W.heap.size W w' := by
  have HR := Lib.hid hrow
  have hlen : xs.length ≤ 9223372036854775807 := by unfold maxLen at hcm; omega
  clear hrow hnone hby hcm hlc
  go_enter Try.func4, Try.ntmps4
  go_wp2
  go_loopw [3] (fun i wr => ∃ k : Nat, k ≤ xs.length ∧ i = .int .i64 k ∧ Hid (Below W.heap.size W wr)) (fun i _ => xs.length - (intOf i).toNat)
  case atStart => exact ⟨0, by omega, rfl, Below.refl _ _⟩
  case round =>
    obtain ⟨k, hk, rfl, HX⟩ := hrel
    by_cases h1 : k < xs.length ∧ k < 20
    · obtain ⟨h1, h2⟩ := h1
      have h1i : (k : Int) < (xs.length : Int) := by omega
      have h2i : (k : Int) < 20 := by omega
      obtain ⟨a, B, cb, rfl, hc0, hs0, hc1, hc2, hb1, hb2, hb3, hb4, hb5⟩ := ask9_at (HR.out.ext HX.out (Nat.le_refl _)) k h1
      have HB4 := Lib.hid hb4
      clear hb3 hb4
      generalize xs[k].1 = s at *
      generalize xs[k].2.2 = N at *
      generalize xs[k].2.1 = bs at *
      by_cases h3 : 3000 < bs.length
      · have h3i : (3000 : Int) < (bs.length : Int) := by omega
        go_wp2
        go_roundw
        case rel => exact ⟨k + 1, by omega, by go_num, HX⟩
        case measure => simp [intOf]; omega
      · have h3i : ¬ (3000 : Int) < (bs.length : Int) := by omega
        by_cases h4 : bs.length = 0
        · have h4i : ((bs.length : Int) == 0) = true := by simp [h4]
          have H4 := Lib.hid h4
          clear h4
          go_wp2
          go_roundw
          case rel => exact ⟨k + 1, by omega, by go_num, HX⟩
          case measure => simp [intOf]; omega
        · have h4i : ((bs.length : Int) == 0) = false := by simpa using h4
          go_wp2_with fail
          refine (Within_any wr N ((bs.length : Int) + 1) (by omega) (by omega)).mono ?_
          rintro e w1 ⟨rfl, rfl⟩
          have q1 := within_lo N ((bs.length : Int) + 1) (by omega)
          have q2 := within_lt N ((bs.length : Int) + 1) (by omega)
          obtain ⟨m, hm⟩ : ∃ m : Nat, within N ((bs.length : Int) + 1) = m := ⟨_, (Int.toNat_of_nonneg q1).symm⟩
          rw [hm] at q2 ⊢
          have HM := Lib.hid hm
          clear q1 hm
          go_wp2_with fail
          refine (sum_any s hs0 wr B bs.length cb bs rfl (by omega) HB4.out).mono ?_
          rintro e w1 ⟨rfl, hb⟩
          go_wp2_with fail
          have HQ0 : Hid (∀ w', Ext w1 w' → w'.cell? (a.add (k * 3)) = some (.int .u32 (s : Int))) := fun w' h => h.cell (cell_ext hb (Nat.le_refl _) hc0)
          have HB := Lib.hid hb
          have HBS := Lib.hid (HB4.out.ext hb (Nat.le_refl _))
          have hd0 := cell_ext hb (Nat.le_refl _) hc0
          have hd2 := cell_ext hb (Nat.le_refl _) hc2
          have hml : m ≤ bs.length := by omega
          have hmi : (m : Int) ≤ (bs.length : Int) := by omega
          have hmc : (m : Int) ≤ (cb : Int) := by omega
          have LT : Hid ((bs.take m).length = m) := by show _ = _; rw [List.length_take]; omega
          have LD : Hid ((bs.drop m).length = bs.length - m) := by show _ = _; rw [List.length_drop]
          have HS : Hid (csum (csum s (bs.take m)) (bs.drop m) = csum s bs) := by show _ = _; rw [csum_append, List.take_append_drop]
          have HN := Lib.hid (csum_nil hs0)
          have HT : Hid (Rds w1 B (bytesV (bs.take m))) := by show Rds _ _ _; unfold bytesV; rw [← map_take]; exact HBS.out.take m
          have HD : Hid (Rds w1 (if cb = m then B else B.map (·.add m)) (bytesV (bs.drop m))) := by show Rds _ _ _; unfold bytesV; rw [← map_drop]; exact HBS.out.drop1 (by simpa using hml) (by simpa using hb1)
          have LM : m ≤ 9223372036854775807 := by omega
          have LD2 : bs.length - m ≤ 9223372036854775807 := by omega
          have L0 : 0 ≤ 9223372036854775807 := by omega
          have hs1 := csum_lt s (bs.take m)
          clear hb hc0 hc1 hc2
          have hne : ((csum (csum s (bs.take m)) (bs.drop m) : Int) != (csum s bs : Int)) = false := by rw [HS.out]; simp
          have hnn : ((csum s [] : Int) != (s : Int)) = false := by rw [HN.out]; simp
          refine wp_region_cls (Ext w1) (by kernel_rfl) (by kernel_rfl) (Ext.drawn _) ?_
          repeat (go_big_quiet_step (first
            | (intro _; rfl)
            | (intro hC; rw [HQ0.out _ hC]; exact ⟨rfl, rfl⟩)
            | (intro hC; go_at_call 15; with_reducible exact Calls.cls hC (sum_any s hs0 _ B m _ (bs.take m) LT.out LM (hC.rds HT.out)))
            | (intro hC; go_at_call 15; with_reducible exact Calls.cls hC (sum_any (csum s (bs.take m)) hs1 _ _ (bs.length - m) _ (bs.drop m) LD.out LD2 (hC.rds HD.out)))
            | (intro hC; go_at_call 15; with_reducible exact Calls.cls hC (sum_any s hs0 _ none 0 0 [] rfl L0 (Rds.nil _ _)))))
          refine wpQuiet_nil ?_
          intro w2 hC2
          have HX2 : Hid (Ext wr w2) := Ext.trans HB.out (hC2.below)
          have HBS2 := Lib.hid (hC2.rds HBS.out)
          have he2 := hC2.cell hd2
          have he0 := hC2.cell hd0
          clear hC2 hne hnn hd0 hd2 HQ0 HBS HT HD
          generalize (if cb = m then B else B.map (·.add m)) = BB
          go_wp2_with fail
          refine (CopyBytes_any w2 B _ cb bs rfl (by omega) HBS2.out).mono ?_
          rintro e w3 ⟨v, rfl, hown, hb⟩
          obtain ⟨A2, c2, rfl, g1, g2, g3, g4, g5⟩ := own_rds hown
          have hpos : 0 < bs.length := by omega
          obtain ⟨a2, rfl⟩ : ∃ a2, A2 = some a2 := by
            cases A2 with
            | some a2 => exact ⟨a2, rfl⟩
            | none => have := (g3 rfl).1; omega
          obtain ⟨g, rfl, hg1, hg2⟩ := g5 _ rfl
          have p1 := within_lo N (bs.length : Int) (by omega)
          have p2 := within_lt N (bs.length : Int) (by omega)
          obtain ⟨p, hp⟩ : ∃ p : Nat, within N (bs.length : Int) = p := ⟨_, (Int.toNat_of_nonneg p1).symm⟩
          have p3 := within_lo N 8 (by omega)
          have p4 := within_lt N 8 (by omega)
          obtain ⟨q, hq⟩ : ∃ q : Nat, within N 8 = q := ⟨_, (Int.toNat_of_nonneg p3).symm⟩
          have hpl : p < bs.length := by omega
          have hql : q < 8 := by omega
          have hpi : (p : Int) < (bs.length : Int) := by omega
          have hqi : (q : Int) < 8 := by omega
          have hcp : w3.cell? ⟨g, p, none⟩ = some (.int .u8 (bs[p].toNat : Int)) := by
            obtain ⟨a', e1, e2⟩ := g4 p _ (by rw [List.getElem?_map, List.getElem?_eq_getElem hpl]; rfl)
            obtain rfl := Option.some.inj e1
            rwa [Addr.add_lit, Nat.zero_add] at e2
          have hfp : w3.frozen? ⟨g, p, none⟩ = false := hown.frozenAt p
          have hf2 := cell_ext hb (Nat.le_refl _) he2
          have hga : a.block ≠ g := by have := World.block_lt_of_cell? w2 _ he0; rw [add_block] at this; omega
          have hf0 := cell_ext hb (Nat.le_refl _) he0
          have HB3 := Lib.hid hb
          have HOW := Lib.hid hown
          have HP := Lib.hid hp
          have HQ := Lib.hid hq
          have HWP : Hid (∀ w, Calls Try.prog 19 #[.int .i64 N, .int .i64 (bs.length : Int)] w fun e w' => e = .returned (.int .i64 (p : Int)) ∧ w' = w) := by
            intro w; have h := Within_any w N (bs.length : Int) (by omega) (by omega); rw [hp] at h; exact Calls.still h
          have HWQ : Hid (∀ w, Calls Try.prog 19 #[.int .i64 N, .int .i64 8] w fun e w' => e = .returned (.int .i64 (q : Int)) ∧ w' = w) := by
            intro w; have h := Within_any w N 8 (by omega) (by omega); rw [hq] at h; exact Calls.still h
          clear p1 p2 p3 p4 hp hq hb hown g1 g2 g3 g4 g5 he2 he0
          go_wp2_with fail
          refine wp_region_still_tail 20 (by kernel_rfl) (by kernel_rfl) ?_
          simp only [List.take_succ_cons, List.take_zero, List.drop_succ_cons, List.drop_zero]
          repeat still_step
          still_call (HWP.out _)
          repeat still_step
          still_call (HWQ.out _)
          repeat still_step
          refine wpStill_nil ?_
          have hcp4 : w3.drew.cell? ⟨g, p, none⟩ = some (.int .u8 (bs[p].toNat : Int)) := hcp
          have hfp4 : w3.drew.frozen? ⟨g, p, none⟩ = false := hfp
          have hz0 : w3.drew.cell? (a.add (k * 3)) = some (.int .u32 (s : Int)) := hf0
          have HOW4 : Hid (w3.drew.ownsRow w2.heap.size 5 1 (.slice (some ⟨g, 0, none⟩) bs.length c2) bs.length (bs.map fun x => Value.int .u8 (x.toNat : Int))) := HOW.out
          have HB4 : Hid (Ext w2 w3.drew) := HB3.out.drew
          clear hcp hfp hf0 HOW HB3 HWP HWQ hf2
          change wpList _ _ _ _ _ w3.drew
          generalize w3.drew = w4 at *
          obtain ⟨y, hy⟩ : ∃ y : UInt8, y.toNat = bs[p].toNat ^^^ 2 ^ q := ⟨UInt8.ofNat (bs[p].toNat ^^^ 2 ^ q), UInt8.toNat_ofNat_of_lt' (turn_lt bs[p] hql)⟩
          have hxx : bits BinOp.xor IntKind.u8 ((bs[p].toNat : Nat) : Int) (2 ^ q % 256) = ((y.toNat : Nat) : Int) := by rw [hy]; exact turn_bits bs[p] hql
          have hs5 : ∀ v, (w4.setCell ⟨g, p, none⟩ v).cell? (a.add (k * 3)) = some (.int .u32 (s : Int)) := fun v => (cell_set_far v (by rw [add_block]; exact hga)).trans hz0
          have HNE : Hid (csum s (bs.set p y) ≠ csum s bs) := by
            show _ ≠ _
            have e1 : bs = bs.take p ++ bs[p] :: bs.drop (p + 1) := by rw [List.getElem_cons_drop, List.take_append_drop]
            have e2 : bs.set p y = bs.take p ++ y :: bs.drop (p + 1) := by rw [List.set_eq_take_append_cons_drop, if_pos hpl]
            conv => rhs; rw [e1]
            rw [e2]
            exact csum_turned s _ _ y bs[p] (turn_ne hy)
          have HOW5 : Hid ((w4.setCell ⟨g, p, none⟩ (.int .u8 (y.toNat : Int))).ownsRow w2.heap.size 5 1 (.slice (some ⟨g, 0, none⟩) bs.length c2) bs.length (bytesV (bs.set p y))) := by
            have := HOW4.out.stored p (.int .u8 (y.toNat : Int))
            show World.ownsRow _ _ _ _ _ _ _
            unfold bytesV
            rw [List.map_set]
            exact this.1
          have HB5 : Hid (Ext w2 (w4.setCell ⟨g, p, none⟩ (.int .u8 (y.toNat : Int)))) := Below.setCell HB4.out hg1 _
          clear hz0 hy HOW4 HB4
          obtain ⟨A3, c3, e3, _, _, _, r3, _⟩ := own_rds HOW5.out
          obtain ⟨rfl, _, rfl⟩ := Value.slice.inj e3
          have HR3 := Lib.hid r3
          clear e3 r3 HOW5
          have LS : (bs.set p y).length = bs.length := List.length_set
          have HLS := Lib.hid LS
          clear LS
          go_wp2_with fail
          refine (sum_any s hs0 _ (some ⟨g, 0, none⟩) bs.length c2 (bs.set p y) HLS.out (by omega) HR3.out).mono ?_
          rintro e w6 ⟨rfl, hb6⟩
          have HB6 : Hid (Below W.heap.size W w6) := HX.out.trans ((HX2.out.below.trans ((HB5.out.below.trans (hb6.mono HB5.out.below.size)).mono HX2.out.below.size)).mono HX.out.size)
          have hfin : ((csum s (bs.set p y) : Int) == (csum s bs : Int)) = false := by
            rw [beq_eq_false_iff_ne]; intro e; exact HNE.out (Int.ofNat_inj.1 e)
          clear hb6 HB5 hs5 hxx
          go_wp2
          go_roundw
          case rel => exact ⟨k + 1, by omega, by go_num, HB6⟩
          case measure => simp [intOf]; omega
    · by_cases h2 : k < xs.length
      · have h1i : (k : Int) < (xs.length : Int) := by omega
        have h2i : ¬ (k : Int) < 20 := by omega
        go_wp2_with (go_at_call 18; refine (wakes9 _).mono ?_; rintro e w1 ⟨rfl, hb⟩)
        go_ret
        exact ⟨rfl, HX.out.trans (hb.mono HX.out.size)⟩
      · have h1i : ¬ (k : Int) < (xs.length : Int) := by omega
        go_wp2_with (go_at_call 18; refine (wakes9 _).mono ?_; rintro e w1 ⟨rfl, hb⟩)
        go_ret
        exact ⟨rfl, HX.out.trans (hb.mono HX.out.size)⟩
end Go.Proofs.Ythibhndeejichaa
