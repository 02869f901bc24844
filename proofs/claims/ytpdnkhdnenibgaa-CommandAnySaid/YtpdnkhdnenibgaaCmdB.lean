/- The walk of command.Bytes. -/
import Derived.Test.YtpdnkhdnenibgaaCmdM
import Derived.Test.YtpdnkhdnenibgaaCmdN
set_option linter.unusedVariables false
set_option linter.unusedSimpArgs false
namespace Lec
open Go Go.RowKit
/-- append in a region that draws its order: the row that is owned grows. -/
theorem app_op {P : Program} {ops : Array Oper} {o : Oper} {a : Act} {w : World} {K : Act → World → Prop} {Q : Exit → Act → World → Prop} (hgd : o.guard = none) (s x : Operand) (t : TypeId)
    (ho : o.op = .call { callee := .builtin .append, args := #[s, x], argTypes := #[t, t] })
    (base : Nat) (e : TypeId) (z : Value) (size bytes : Nat) (ht : P.underlying t = some (.slice e)) (hinfo : (P.info? e).map (fun i => (i.zero, i.size, i.bytes)) = some (some z, size, bytes))
    (hzs : z.cells.size = size) (hsz : 0 < size) (hby : 0 < bytes)
    (v : Value) (n : Nat) (xs : List Value) (hs : a.eval s = v) (hown : w.ownsRow base e size v n xs)
    (ad : Addr) (m c : Nat) (news : List Value) (hx : a.eval x = .slice (some ad) m c) (hl : news.length = m * size) (hnews : Rds w (some ad) news) (h1 : ∀ u ∈ news, u.oneCell' = true)
    (hbytes : (n + m) * bytes ≤ 140737488355328) (hbase : base ≤ w.heap.size)
    (h : ∀ v' w', w'.ownsRow base e size v' (n + m) (xs ++ news) → w.grownBy w' v.ownBlock → K (a.put o.dst v') w') :
    if Region.wanted o (yielded ops a.tmps) = true then Oper.wp P o a w K Q else K (a.put o.dst undef) w := by
  obtain ⟨i, hi, hz0, hz1, hz2⟩ := info_parts hinfo
  have hmax : n + m ≤ maxLen := by
    have : (n + m) * 1 ≤ (n + m) * bytes := Nat.mul_le_mul_left _ hby
    simp only [maxLen]; omega
  rw [if_pos (by simp [Region.wanted, hgd])]
  exact wp_append_own w s x t ho base e i z size bytes ht hi hz0 hz1 hz2 hzs hsz v n xs hs hown ad m c news hx hl (fun j u hu => by obtain ⟨a', e', hc⟩ := hnews j u hu; cases e'; exact hc) h1 hmax hbytes hbase (fun v' w' p q _ => h v' w' p q)
end Lec
namespace Go.Proofs.Ytpdnkhdnenibgaa
open Go.RowKit Lec
theorem rds_lit2 (w : World) (cs : Array Value) (T : TypeId) : Rds (w.alloc (.cells cs T)) (some ⟨w.heap.size, 0, none⟩) cs.toList := by
  intro i u hu
  refine ⟨_, rfl, ?_⟩
  rw [Addr.add_lit, cell_of_row _ w.heap.size _ cs T (0, 0) (heap_alloc_new _ _)]
  simpa using hu
def BytesPost (w : World) (c : Cmd) (e : Ending) (w' : World) : Prop :=
  Below w.heap.size w w' ∧ ((mayC c ∧ ∃ v, e = .returned (.tuple #[v, .int .i64 0]) ∧ w'.ownsRow w.heap.size 5 1 v (bytesC c).length (bytesV (bytesC c))) ∨ (¬ mayC c ∧ e = .returned (.tuple #[.slice none 0 0, .int .i64 1])))
theorem numS_size {n : Int} (h : 0 ≤ n ∧ n < 9223372036854775808) : (numS n).size ≤ 9 := by
  unfold numS
  rw [bytesOf_size]
  exact numB_len9 (by omega)
theorem may_nums {c : Cmd} (h : mayC c) : (0 ≤ c.1 ∧ c.1 < 9223372036854775808) ∧ (0 ≤ c.2.1 ∧ c.2.1 < 9223372036854775808) ∧ (0 ≤ c.2.2.1 ∧ c.2.2.1 < 9223372036854775808) ∧ c.2.2.2.1.size ≤ 2048 ∧ c.2.2.2.2.size ≤ 2048 := by
  rcases h with ⟨h1, h2, h3, h4, h5⟩ | ⟨h1, h2, h3, _, _, h4, h5⟩
  · rw [h1, h2, h3, h4, h5]; decide
  · have h2 := of_decide_eq_true h2
    have h3 := of_decide_eq_true h3
    refine ⟨by omega, by omega, by omega, by omega, by omega⟩
theorem bytesC_len {c : Cmd} (h : mayC c) : (bytesC c).length ≤ 8000 := by
  obtain ⟨h1, h2, h3, h4, h5⟩ := may_nums h
  have g1 := numS_size h1
  have g2 := numS_size h2
  have g3 := numS_size h3
  have := (putB_light (ss := [numS c.1, numS c.2.1, numS c.2.2.1, c.2.2.2.1, c.2.2.2.2]) (by simp [textsLen]; omega)).1
  unfold bytesC
  simp [textsLen] at this
  omega
set_option maxRecDepth 100000 in
set_option maxHeartbeats 4000000 in
theorem Bytes_any (w : World) (c : Cmd) : Calls Try.prog 37 #[cmdV c] w (BytesPost w c) := by
  obtain ⟨k, cl, sq, id, tx⟩ := c
  have HMY := fun w => Lib.hid (MayCommand_any w (k, cl, sq, id, tx))
  unfold cmdV at *
  dsimp only at *
  by_cases hm : mayC (k, cl, sq, id, tx)
  · rw [decide_eq_true hm] at HMY
    have HM := Lib.hid hm
    clear hm
    go_enter Try.func37, Try.ntmps37
    go_wp2_with fail
    refine (HMY _).out.mono ?_
    rintro e w2 ⟨rfl, hb⟩
    have hb0 : Below w.heap.size w (w.alloc (.cells #[.int .i64 k, .int .i64 cl, .int .i64 sq, .string id, .string tx] 61)) := (Below.refl _ _).alloc (Nat.le_refl _) _
    have HC := Lib.hid ((Cm.new w (k, cl, sq, id, tx) 61).ext hb (Nat.le_refl _))
    have HX : Hid (Below w.heap.size w w2) := hb0.trans (hb.mono hb0.size)
    clear hb hb0 HMY
    obtain ⟨h1, h2, h3, h4, h5⟩ := may_nums HM.out
    dsimp only at h1 h2 h3 h4 h5
    have HSZ : Hid (k < 9223372036854775808 ∧ 0 ≤ k ∧ 0 ≤ cl ∧ cl < 9223372036854775808 ∧ 0 ≤ sq ∧ sq < 9223372036854775808 ∧ id.size ≤ 2048 ∧ tx.size ≤ 2048) := ⟨h1.2, h1.1, h2.1, h2.2, h3.1, h3.2, h4, h5⟩
    have HNU : Hid (∀ (wz : World) (g : Nat), Rds wz (some ⟨g, 0, none⟩) [.int .i64 k, .int .i64 cl, .int .i64 sq] → Calls Try.prog 77 #[.slice (some ⟨g, 0, none⟩) 3 3] wz fun e w' => ∃ v, e = .returned v ∧ w'.ownsRow wz.heap.size 9 1 v 3 [.string (numS k), .string (numS cl), .string (numS sq)] ∧ Below wz.heap.size wz w') := Lib.hid (fun wz g hr =>
      (Numbers_any wz (some ⟨g, 0, none⟩) 3 3 [k, cl, sq] rfl (by omega) (fun x hx => by simp at hx; rcases hx with rfl | rfl | rfl <;> omega) hr).mono (fun e w' h => h))
    have HPT : Hid (∀ (wz : World) (A : Option Addr) (cp : Nat), Rds wz A [.string (numS k), .string (numS cl), .string (numS sq), .string id, .string tx] → Calls Try.prog 76 #[.slice A 5 cp] wz fun e w' => Below wz.heap.size wz w' ∧ ∃ v, e = .returned (.tuple #[v, .int .i64 0]) ∧ w'.ownsRow wz.heap.size 5 1 v (bytesC (k, cl, sq, id, tx)).length (bytesV (bytesC (k, cl, sq, id, tx)))) := Lib.hid (fun wz A cp hr => by
      have g1 := numS_size h1
      have g2 := numS_size h2
      have g3 := numS_size h3
      refine (Put_any wz A 5 cp [numS k, numS cl, numS sq, id, tx] rfl (by omega) (fun s hs => by simp at hs; rcases hs with rfl | rfl | rfl | rfl | rfl <;> omega) hr).mono ?_
      rintro e w' ⟨hb, ⟨_, v, rfl, ho⟩ | ⟨hl, _⟩⟩
      · exact ⟨hb, v, rfl, ho⟩
      · have := bytesC_len HM.out
        exact absurd hl (by have h9 : (bytesC (k, cl, sq, id, tx)).length = (putB [numS k, numS cl, numS sq, id, tx]).length := rfl; omega))
    clear h1 h2 h3 h4 h5 HSZ
    have HD1 : Hid (Below w2.heap.size w2 (w2.alloc (.cells #[.int .i64 k, .int .i64 cl, .int .i64 sq] 3)).drew) := Lib.hid (below_drew ((Below.refl _ _).alloc (Nat.le_refl _) _))
    have HD2 : Hid (Below w2.heap.size w2 ((w2.alloc (.cells #[.int .i64 k, .int .i64 cl, .int .i64 sq] 3)).alloc (.cells #[.string id, .string tx] 9)).drew) := Lib.hid (below_drew (((Below.refl _ _).alloc (Nat.le_refl _) _).alloc (by simp) _))
    have HD3 : Hid (Below w2.heap.size w2 ((w2.alloc (.cells #[.string id, .string tx] 9)).alloc (.cells #[.int .i64 k, .int .i64 cl, .int .i64 sq] 3)).drew) := Lib.hid (below_drew (((Below.refl _ _).alloc (Nat.le_refl _) _).alloc (by simp) _))
    have HI1 : Hid (Rds (w2.alloc (.cells #[.int .i64 k, .int .i64 cl, .int .i64 sq] 3)).drew (some ⟨w2.heap.size, 0, none⟩) [.int .i64 k, .int .i64 cl, .int .i64 sq]) := Lib.hid (rds_lit2 w2 _ _)
    have HI2 : Hid (Rds ((w2.alloc (.cells #[.int .i64 k, .int .i64 cl, .int .i64 sq] 3)).alloc (.cells #[.string id, .string tx] 9)).drew (some ⟨w2.heap.size, 0, none⟩) [.int .i64 k, .int .i64 cl, .int .i64 sq]) := Lib.hid ((rds_lit2 w2 _ _).ext (w := (w2.alloc (.cells #[.int .i64 k, .int .i64 cl, .int .i64 sq] 3))) (below_drew ((Below.refl _ _).alloc (Nat.le_refl _) _)) (Nat.le_refl _))
    have HI3 : Hid (Rds ((w2.alloc (.cells #[.string id, .string tx] 9)).alloc (.cells #[.int .i64 k, .int .i64 cl, .int .i64 sq] 3)).drew (some ⟨w2.heap.size + 1, 0, none⟩) [.int .i64 k, .int .i64 cl, .int .i64 sq]) := Lib.hid (by have h := rds_lit2 (w2.alloc (.cells #[.string id, .string tx] 9)) #[.int .i64 k, .int .i64 cl, .int .i64 sq] 3; rw [show (w2.alloc (.cells #[.string id, .string tx] 9)).heap.size = w2.heap.size + 1 by simp] at h; exact h)
    have HS2 : Hid (Rds ((w2.alloc (.cells #[.int .i64 k, .int .i64 cl, .int .i64 sq] 3)).alloc (.cells #[.string id, .string tx] 9)).drew (some ⟨w2.heap.size + 1, 0, none⟩) [.string id, .string tx]) := Lib.hid (by have h := rds_lit2 (w2.alloc (.cells #[.int .i64 k, .int .i64 cl, .int .i64 sq] 3)) #[.string id, .string tx] 9; rw [show (w2.alloc (.cells #[.int .i64 k, .int .i64 cl, .int .i64 sq] 3)).heap.size = w2.heap.size + 1 by simp] at h; exact h)
    have HS3 : Hid (Rds ((w2.alloc (.cells #[.string id, .string tx] 9)).alloc (.cells #[.int .i64 k, .int .i64 cl, .int .i64 sq] 3)).drew (some ⟨w2.heap.size, 0, none⟩) [.string id, .string tx]) := Lib.hid ((rds_lit2 w2 _ _).ext (w := (w2.alloc (.cells #[.string id, .string tx] 9))) (below_drew ((Below.refl _ _).alloc (Nat.le_refl _) _)) (Nat.le_refl _))
    obtain ⟨c0, c1, c2, c3, c4, _, _, _, _, _, _⟩ := HC.out
    go_upto_region 3 with (fail)
    go_region_held3 (fun w' => w'.cell? ⟨w.heap.size, 0, none⟩ = some (.int .i64 k) ∧ w'.cell? ⟨w.heap.size, 1, none⟩ = some (.int .i64 cl) ∧ w'.cell? ⟨w.heap.size, 2, none⟩ = some (.int .i64 sq) ∧ w'.cell? ⟨w.heap.size, 3, none⟩ = some (.string id) ∧ w'.cell? ⟨w.heap.size, 4, none⟩ = some (.string tx))
      (first | (with_reducible exact ⟨c0, c1, c2, c3, c4⟩) | go_keep)
      (first | (go_at_call 77; with_reducible refine (HNU.out (w2.alloc (.cells #[.int .i64 k, .int .i64 cl, .int .i64 sq] 3)).drew w2.heap.size HI1.out).mono ?_
                rintro e w3 ⟨v3, rfl, hown, hb⟩
                have HBQ : Hid (Below w2.heap.size w2 w3) := HD1.out.trans (hb.mono HD1.out.size)
                have HOW := Lib.hid (own_lower hown HD1.out.size)
                have hnote : True := trivial
                clear hown hb
                have HCQ := HC.out.ext HBQ.out (Nat.le_refl _)
                clear c0 c1 c2 c3 c4
                obtain ⟨c0, c1, c2, c3, c4, _, _, _, _, _, _⟩ := HCQ)
             | (go_at_call 77; with_reducible refine (HNU.out ((w2.alloc (.cells #[.int .i64 k, .int .i64 cl, .int .i64 sq] 3)).alloc (.cells #[.string id, .string tx] 9)).drew w2.heap.size HI2.out).mono ?_
                rintro e w3 ⟨v3, rfl, hown, hb⟩
                have HBQ : Hid (Below w2.heap.size w2 w3) := HD2.out.trans (hb.mono HD2.out.size)
                have HOW := Lib.hid (own_lower hown HD2.out.size)
                have HRB := Lib.hid (HS2.out.ext hb (Nat.le_refl _))
                clear hown hb
                have HCQ := HC.out.ext HBQ.out (Nat.le_refl _)
                clear c0 c1 c2 c3 c4
                obtain ⟨c0, c1, c2, c3, c4, _, _, _, _, _, _⟩ := HCQ)
             | (go_at_call 77; with_reducible refine (HNU.out ((w2.alloc (.cells #[.string id, .string tx] 9)).alloc (.cells #[.int .i64 k, .int .i64 cl, .int .i64 sq] 3)).drew (w2.heap.size + 1) HI3.out).mono ?_
                rintro e w3 ⟨v3, rfl, hown, hb⟩
                have HBQ : Hid (Below w2.heap.size w2 w3) := HD3.out.trans (hb.mono HD3.out.size)
                have HOW := Lib.hid (own_lower hown HD3.out.size)
                have HRB := Lib.hid (HS3.out.ext hb (Nat.le_refl _))
                clear hown hb
                have HCQ := HC.out.ext HBQ.out (Nat.le_refl _)
                clear c0 c1 c2 c3 c4
                obtain ⟨c0, c1, c2, c3, c4, _, _, _, _, _, _⟩ := HCQ)
             | (refine app_op rfl _ _ 107 rfl w2.heap.size 9 (.string ⟨#[]⟩) 1 16 Try.underlying107 info_strN rfl (by decide) (by decide) _ 3 _ rfl HOW.out ⟨w2.heap.size + 1, 0, none⟩ 2 2 [.string id, .string tx] rfl rfl HRB.out (by intro u hu; simp at hu; rcases hu with rfl | rfl <;> rfl) (by omega) HBQ.out.size ?_
                intro v4 w4 hown4 hg4
                obtain ⟨A4, cp4, rfl, q1, q2, q3, q4, q5⟩ := own_rds hown4
                have HR4 : Hid (Rds w4 A4 [.string (numS k), .string (numS cl), .string (numS sq), .string id, .string tx]) := Lib.hid q4
                have HBP : Hid (Below w2.heap.size w2 w4) := (HBQ.out).grown hg4 (HBQ.out).size (fun x hx => (HOW.out.lt x hx).1)
                clear q1 q2 q3 q4 q5 hown4 hg4
                have HCQ := HC.out.ext HBP.out (Nat.le_refl _)
                clear c0 c1 c2 c3 c4
                obtain ⟨c0, c1, c2, c3, c4, _, _, _, _, _, _⟩ := HCQ)
             | (refine app_op rfl _ _ 107 rfl w2.heap.size 9 (.string ⟨#[]⟩) 1 16 Try.underlying107 info_strN rfl (by decide) (by decide) _ 3 _ rfl HOW.out ⟨w2.heap.size, 0, none⟩ 2 2 [.string id, .string tx] rfl rfl HRB.out (by intro u hu; simp at hu; rcases hu with rfl | rfl <;> rfl) (by omega) HBQ.out.size ?_
                intro v4 w4 hown4 hg4
                obtain ⟨A4, cp4, rfl, q1, q2, q3, q4, q5⟩ := own_rds hown4
                have HR4 : Hid (Rds w4 A4 [.string (numS k), .string (numS cl), .string (numS sq), .string id, .string tx]) := Lib.hid q4
                have HBP : Hid (Below w2.heap.size w2 w4) := (HBQ.out).grown hg4 (HBQ.out).size (fun x hx => (HOW.out.lt x hx).1)
                clear q1 q2 q3 q4 q5 hown4 hg4
                have HCQ := HC.out.ext HBP.out (Nat.le_refl _)
                clear c0 c1 c2 c3 c4
                obtain ⟨c0, c1, c2, c3, c4, _, _, _, _, _, _⟩ := HCQ)
             | (refine app_op rfl _ _ 107 rfl w2.heap.size 9 (.string ⟨#[]⟩) 1 16 Try.underlying107 info_strN rfl (by decide) (by decide) _ 3 _ rfl (own_ext HOW.out ((Below.refl w3.heap.size w3).alloc (Nat.le_refl _) _) (Nat.le_refl _)) ⟨w3.heap.size, 0, none⟩ 2 2 [.string id, .string tx] rfl rfl (rds_lit2 w3 _ _) (by intro u hu; simp at hu; rcases hu with rfl | rfl <;> rfl) (by omega) (HBQ.out.alloc HBQ.out.size (.cells #[.string id, .string tx] 9)).size ?_
                intro v4 w4 hown4 hg4
                obtain ⟨A4, cp4, rfl, q1, q2, q3, q4, q5⟩ := own_rds hown4
                have HR4 : Hid (Rds w4 A4 [.string (numS k), .string (numS cl), .string (numS sq), .string id, .string tx]) := Lib.hid q4
                have HBP : Hid (Below w2.heap.size w2 w4) := ((HBQ.out.alloc HBQ.out.size (.cells #[.string id, .string tx] 9))).grown hg4 ((HBQ.out.alloc HBQ.out.size (.cells #[.string id, .string tx] 9))).size (fun x hx => (HOW.out.lt x hx).1)
                clear q1 q2 q3 q4 q5 hown4 hg4
                have HCQ := HC.out.ext HBP.out (Nat.le_refl _)
                clear c0 c1 c2 c3 c4
                obtain ⟨c0, c1, c2, c3, c4, _, _, _, _, _, _⟩ := HCQ)
             | (go_at_call 76; with_reducible refine (HPT.out w4 A4 cp4 HR4.out).mono ?_
                rintro e w5 ⟨hb5, v5, rfl, hown5⟩
                have HB5 : Hid (Below w2.heap.size w2 w5) := HBP.out.trans (hb5.mono HBP.out.size)
                have HO5 := Lib.hid (own_lower hown5 HBP.out.size)
                clear hb5 hown5
                have HCQ := HC.out.ext HB5.out (Nat.le_refl _)
                clear c0 c1 c2 c3 c4
                obtain ⟨c0, c1, c2, c3, c4, _, _, _, _, _, _⟩ := HCQ))
    all_goals
      go_wp2
      go_ret2
      have hle := HX.out.size
      exact ⟨HX.out.trans (HB5.out.mono HX.out.size), .inl ⟨HM.out, v5, rfl, own_lower HO5.out hle⟩⟩
  · rw [decide_eq_false hm] at HMY
    have HM := Lib.hid hm
    clear hm
    go_enter Try.func37, Try.ntmps37
    go_wp2_with fail
    refine (HMY _).out.mono ?_
    rintro e w2 ⟨rfl, hb⟩
    have hb0 : Below w.heap.size w (w.alloc (.cells #[.int .i64 k, .int .i64 cl, .int .i64 sq, .string id, .string tx] 61)) := (Below.refl _ _).alloc (Nat.le_refl _) _
    have HX : Hid (Below w.heap.size w w2) := hb0.trans (hb.mono hb0.size)
    clear hb hb0 HMY
    go_wp2
    go_ret2
    exact ⟨HX.out, .inr ⟨HM.out, rfl⟩⟩
end Go.Proofs.Ytpdnkhdnenibgaa
