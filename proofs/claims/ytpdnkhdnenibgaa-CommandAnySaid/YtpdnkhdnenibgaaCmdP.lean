/- The walk of command.Parse. -/
import Derived.Test.YtpdnkhdnenibgaaCmdB
import Derived.Test.YtpdnkhdnenibgaaBlk
set_option linter.unusedVariables false
set_option linter.unusedSimpArgs false
namespace Lec
open Go Go.RowKit
/-- The command's cells while its numbers are read. -/
def cmC (x0 x1 x2 : Int) (k : Nat) : List Value := [.int .i64 (if 0 < k then x0 else 0), .int .i64 (if 1 < k then x1 else 0), .int .i64 (if 2 < k then x2 else 0), .string ⟨#[]⟩, .string ⟨#[]⟩]
theorem cmC_next (x0 x1 x2 : Int) (k : Nat) (hk : k < 3) (x : Int) (hx : [x0, x1, x2][k]? = some x) : (cmC x0 x1 x2 k).set k (.int .i64 x) = cmC x0 x1 x2 (k + 1) := by
  match k, hk with
  | 0, _ => simp at hx; subst hx; simp [cmC]
  | 1, _ => simp at hx; subst hx; simp [cmC]
  | 2, _ => simp at hx; subst hx; simp [cmC]
theorem Blk.cm {w : World} {p : Nat} {T : TypeId} {a b c : Int} {d e : ByteArray} (h : Blk w p T [.int .i64 a, .int .i64 b, .int .i64 c, .string d, .string e]) : Cm w p (a, b, c, d, e) :=
  ⟨h.cell rfl, h.cell rfl, h.cell rfl, h.cell rfl, h.cell rfl, h.froz _, h.froz _, h.froz _, h.froz _, h.froz _, h.lt⟩
theorem parse_none {bs : List UInt8} (h : getL bs = none) : parseC bs = none := by unfold parseC; rw [h]; rfl
theorem parse_len {bs : List UInt8} {l : List ByteArray} (h : getL bs = some l) (hl : l.length ≠ 5) : parseC bs = none := by
  unfold parseC; rw [h]
  match l, hl with
  | [], _ => rfl
  | [_], _ => rfl
  | [_, _], _ => rfl
  | [_, _, _], _ => rfl
  | [_, _, _, _], _ => rfl
  | [_, _, _, _, _], h => exact absurd rfl h
  | _ :: _ :: _ :: _ :: _ :: _ :: _, _ => rfl
theorem parse_five {bs : List UInt8} {a b c d e : ByteArray} (h : getL bs = some [a, b, c, d, e]) : parseC bs = match readS a, readS b, readS c with
    | some x, some y, some z => if mayC ((x : Int), (y : Int), (z : Int), d, e) then some ((x : Int), (y : Int), (z : Int), d, e) else none
    | _, _, _ => none := by unfold parseC; rw [h]; rfl
theorem parse_bad {bs : List UInt8} {a b c d e : ByteArray} (h : getL bs = some [a, b, c, d, e]) {k : Nat} {s : ByteArray} (hk : [a, b, c][k]? = some s) (hs : (rdB s).2 = false) : parseC bs = none := by
  have hr : readS s = none := by
    cases hr : readS s with
    | none => rfl
    | some n => rw [rdB_some hr] at hs; cases hs
  rw [parse_five h]
  match k with
  | 0 => simp at hk; subst hk; rw [hr]
  | 1 => simp at hk; subst hk; rw [hr]; cases readS a <;> rfl
  | 2 => simp at hk; subst hk; rw [hr]; cases readS a <;> cases readS b <;> rfl
theorem rd_get {s : ByteArray} (h : (rdB s).2 = true) : readS s = some (rdB s).1.toNat ∧ 0 ≤ (rdB s).1 := by
  cases hr : readS s with
  | none => rw [rdB_none hr] at h; cases h
  | some n => rw [rdB_some hr]; exact ⟨by simp, by simp⟩
theorem parse_all {bs : List UInt8} {a b c d e : ByteArray} (h : getL bs = some [a, b, c, d, e]) (ha : (rdB a).2 = true) (hb : (rdB b).2 = true) (hc : (rdB c).2 = true) :
    parseC bs = if mayC ((rdB a).1, (rdB b).1, (rdB c).1, d, e) then some ((rdB a).1, (rdB b).1, (rdB c).1, d, e) else none := by
  rw [parse_five h, (rd_get ha).1, (rd_get hb).1, (rd_get hc).1]
  dsimp only
  rw [Int.toNat_of_nonneg (rd_get ha).2, Int.toNat_of_nonneg (rd_get hb).2, Int.toNat_of_nonneg (rd_get hc).2]
end Lec
namespace Go.Proofs.Ytpdnkhdnenibgaa
open Go.RowKit Lec
def ParsePost (w : World) (bs : List UInt8) (e : Ending) (w' : World) : Prop :=
  Below w.heap.size w w' ∧ ((∃ c, parseC bs = some c ∧ e = .returned (.tuple #[cmdV c, .int .i64 0])) ∨ (parseC bs = none ∧ e = .returned (.tuple #[cmdV noC, .int .i64 1])))
set_option maxRecDepth 100000 in
set_option maxHeartbeats 4000000 in
theorem Parse_any (w : World) (A : Option Addr) (n c : Nat) (bs : List UInt8) (hn : bs.length = n) (hnc : n ≤ c) (hm : n ≤ 1000000) (hr : Rds w A (bytesV bs)) :
    Calls Try.prog 34 #[.slice A n c] w (ParsePost w bs) := by
  have HR := Lib.hid hr
  have HN := Lib.hid hn
  clear hr hn
  go_enter Try.func34, Try.ntmps34
  go_wp2_with fail
  obtain ⟨w0, hw0⟩ : ∃ w0, w0 = w.alloc (.cells #[.int .i64 0, .int .i64 0, .int .i64 0, .string ⟨#[]⟩, .string ⟨#[]⟩] 61) := ⟨_, rfl⟩
  have HX : Hid (Below w.heap.size w w0) := by rw [hw0]; exact (Below.refl _ _).alloc (Nat.le_refl _) _
  have HB : Hid (Blk w0 w.heap.size 61 (cmC 0 0 0 0)) := by rw [hw0]; exact Blk.new w _ _
  rw [← hw0]
  clear hw0
  refine (Get_any w0 A n c bs HN.out hnc (by omega) (HR.out.ext HX.out (Nat.le_refl _))).mono ?_
  rintro e w1 ⟨hb, ⟨hno, rfl⟩ | ⟨l, v, hl, rfl, hown⟩⟩
  · have HPN := Lib.hid (parse_none hno)
    have HB1 := Lib.hid (HB.out.ext hb (Nat.le_refl _))
    replace HX : Hid (Below w.heap.size w w1) := HX.out.trans (hb.mono HX.out.size)
    clear hno hb HB
    have hcm := Blk.cm HB1.out
    obtain ⟨c0, c1, c2, c3, c4, f0, f1, f2, f3, f4, _⟩ := hcm
    dsimp only at c0 c1 c2 c3 c4
    go_wp2
    refine bodyPost_ret (v := .tuple #[.agg #[.int .i64 0, .int .i64 0, .int .i64 0, .string ⟨#[]⟩, .string ⟨#[]⟩], .int .i64 1]) (by simp [results, Try.results34, go_sem, *]) rfl ?_
    exact ⟨((((HX.out.setCell (Nat.le_refl _) _).setCell (Nat.le_refl _) _).setCell (Nat.le_refl _) _).setCell (Nat.le_refl _) _).setCell (Nat.le_refl _) _, .inr ⟨HPN.out, rfl⟩⟩
  · have HL := Lib.hid hl
    obtain ⟨A1, c1', rfl, p1, p2, p3, p4, p5⟩ := own_rds hown
    have HB1 := Lib.hid (HB.out.ext hb (Nat.le_refl _))
    replace HX : Hid (Below w.heap.size w w1) := HX.out.trans (hb.mono HX.out.size)
    have HR1 := Lib.hid p4
    have HSZ : Hid (∀ s ∈ l, s.size ≤ 1048576) := Lib.hid (fun s hs => by
      have h1 := getL_split hl
      have h2 := getL_len hl
      have h3 := (lens_le l).2 s hs
      rw [← h1] at h3; omega)
    have hw01 : w.heap.size < w0.heap.size := HB.out.lt
    have HNA : Hid (∀ a, A1 = some a → ∃ g, a = ⟨g, 0, none⟩ ∧ w.heap.size ≠ g) := Lib.hid (fun a ha => by obtain ⟨g, e, h1, _⟩ := p5 a ha; exact ⟨g, e, by omega⟩)
    clear hb hown p1 p2 p3 p4 p5 HB hl hw01
    by_cases h5 : l.length = 5
    · obtain ⟨sa, sb', sc, sd, se, rfl⟩ : ∃ a b c d e, l = [a, b, c, d, e] := by
        match l, h5 with
        | [a, b, c, d, e], _ => exact ⟨a, b, c, d, e, rfl⟩
      clear h5
      go_wp2_with fail
      obtain ⟨w2, hw2⟩ : ∃ w2, w2 = w1.alloc (.cells #[.pointer (some ⟨w.heap.size, 0, none⟩), .pointer (some ⟨w.heap.size, 1, none⟩), .pointer (some ⟨w.heap.size, 2, none⟩)] 110) := ⟨_, rfl⟩
      have hb2 : Below w1.heap.size w1 w2 := by rw [hw2]; exact (Below.refl _ _).alloc (Nat.le_refl _) _
      have HPB : Hid (Blk w2 w1.heap.size 110 [.pointer (some ⟨w.heap.size, 0, none⟩), .pointer (some ⟨w.heap.size, 1, none⟩), .pointer (some ⟨w.heap.size, 2, none⟩)]) := by rw [hw2]; exact Blk.new w1 _ _
      have HX2 : Hid (Below w.heap.size w w2) := HX.out.trans (hb2.mono HX.out.size)
      have HB2 := Lib.hid (HB1.out.ext hb2 (Nat.le_refl _))
      have HR2 := Lib.hid (HR1.out.ext hb2 (Nat.le_refl _))
      have hgp : w.heap.size < w1.heap.size := HB1.out.lt
      have hw21 : w1.heap.size < w2.heap.size := HPB.out.lt
      rw [← hw2]
      generalize w1.heap.size = gp at *
      clear hw2 hb2 HX HB1 HR1
      obtain ⟨xa, hxa⟩ : ∃ x, x = rdB sa := ⟨_, rfl⟩
      obtain ⟨xb, hxb⟩ : ∃ x, x = rdB sb' := ⟨_, rfl⟩
      obtain ⟨xc, hxc⟩ : ∃ x, x = rdB sc := ⟨_, rfl⟩
      have HXA := Lib.hid hxa
      have HXB := Lib.hid hxb
      have HXC := Lib.hid hxc
      clear hxa hxb hxc
      go_loopw [26] (fun i wx => ∃ k : Nat, i = .int .i64 (k : Int) ∧ k ≤ 3 ∧ Hid (∀ j s, j < k → [sa, sb', sc][j]? = some s → (rdB s).2 = true) ∧ Hid (Blk wx w.heap.size 61 (cmC xa.1 xb.1 xc.1 k)) ∧ Hid (Blk wx gp 110 [.pointer (some ⟨w.heap.size, 0, none⟩), .pointer (some ⟨w.heap.size, 1, none⟩), .pointer (some ⟨w.heap.size, 2, none⟩)]) ∧ Hid (Rds wx A1 ([sa, sb', sc, sd, se].map Value.string)) ∧ Hid (Below w.heap.size w wx)) (fun i _ => 3 - (intOf i).toNat)
      case atStart => exact ⟨0, rfl, by omega, Lib.hid (fun j s h => by omega), HB2, HPB, HR2, HX2⟩
      case round =>
        clear HB2 HPB HR2 HX2 hw21
        obtain ⟨k, rfl, hk, HOK, HB2, HPB, HR2, HX⟩ := hrel
        by_cases h3 : k < 3
        · have h3i : (k : Int) < 3 := by omega
          have hk0 : (0 : Int) ≤ (k : Int) := by omega
          obtain ⟨s, hs3⟩ : ∃ s, [sa, sb', sc][k]? = some s := ⟨_, List.getElem?_eq_getElem (by simpa using h3)⟩
          have hs5 : [sa, sb', sc, sd, se][k]? = some s := by
            match k, h3 with
            | 0, _ => exact hs3
            | 1, _ => exact hs3
            | 2, _ => exact hs3
          obtain ⟨al, rfl, cl⟩ := HR2.out k (.string s) (by rw [List.getElem?_map, hs5]; rfl)
          have hpc : wr.cell? ⟨gp, k, none⟩ = some (.pointer (some ⟨w.heap.size, k, none⟩)) := HPB.out.cell (by
            match k, h3 with
            | 0, _ => rfl
            | 1, _ => rfl
            | 2, _ => rfl)
          have hxs : [xa.1, xb.1, xc.1][k]? = some (rdB s).1 := by
            rw [HXA.out, HXB.out, HXC.out]
            match k, h3 with
            | 0, _ => simp at hs3 ⊢; rw [hs3]
            | 1, _ => simp at hs3 ⊢; rw [hs3]
            | 2, _ => simp at hs3 ⊢; rw [hs3]
          have HCN := Lib.hid (cmC_next xa.1 xb.1 xc.1 k h3 _ hxs)
          have HS3 := Lib.hid hs3
          have hsz := HSZ.out s (List.mem_iff_getElem?.2 ⟨k, hs5⟩)
          have HRD := Lib.hid (Read_any wr s (by omega))
          obtain ⟨y, hy⟩ : ∃ y, y = rdB s := ⟨_, rfl⟩
          rw [← hy] at HRD HCN
          have HY := Lib.hid hy
          clear hs3 hs5 hxs hy
          go_wp2_with fail
          refine HRD.out.mono ?_
          rintro e w3 ⟨rfl, hb⟩
          obtain ⟨z, hz⟩ : ∃ z : Int, (cmC xa.1 xb.1 xc.1 k)[k]? = some (.int .i64 z) := by
            match k, h3 with
            | 0, _ => exact ⟨_, rfl⟩
            | 1, _ => exact ⟨_, rfl⟩
            | 2, _ => exact ⟨_, rfl⟩
          have HB3 := Lib.hid (HB2.out.ext hb (Nat.le_refl _))
          have cg := HB3.out.cell hz
          have fg := HB3.out.froz k
          have HP3 := Lib.hid (HPB.out.ext hb (Nat.le_refl _))
          have HR3 := Lib.hid (HR2.out.ext hb (Nat.le_refl _))
          replace HX : Hid (Below w.heap.size w w3) := HX.out.trans (hb.mono HX.out.size)
          clear hz hb HRD hpc cl HB2 HPB HR2
          obtain ⟨y1, y2⟩ := y
          dsimp only
          cases y2 with
          | false =>
            have HPN := Lib.hid (parse_bad HL.out HS3.out (by rw [← HY.out]))
            go_upto_region 9 with (fail)
            obtain ⟨w4, hw4⟩ : ∃ w4, w4 = w3.setCell ⟨w.heap.size, k, none⟩ (.int .i64 y1) := ⟨_, rfl⟩
            have HB4 : Hid (Blk w4 w.heap.size 61 (cmC xa.1 xb.1 xc.1 (k + 1))) := by rw [hw4]; have := HB3.out.set k (.int .i64 y1); rw [HCN.out] at this; exact this
            have hx4 : Below w.heap.size w w4 := by rw [hw4]; exact HX.out.setCell (Nat.le_refl _) _
            rw [← hw4]
            clear hw4 HX HB3 cg fg HCN
            have HX := Lib.hid hx4
            have hcm := Blk.cm HB4.out
            obtain ⟨c0, c1, c2, c3, c4, f0, f1, f2, f3, f4, _⟩ := hcm
            dsimp only at c0 c1 c2 c3 c4
            go_wp2
            refine bodyPost_ret (v := .tuple #[.agg #[.int .i64 0, .int .i64 0, .int .i64 0, .string ⟨#[]⟩, .string ⟨#[]⟩], .int .i64 1]) (by simp [results, Try.results34, go_sem, *]) rfl ?_
            exact ⟨((((HX.out.setCell (Nat.le_refl _) _).setCell (Nat.le_refl _) _).setCell (Nat.le_refl _) _).setCell (Nat.le_refl _) _).setCell (Nat.le_refl _) _, .inr ⟨HPN.out, rfl⟩⟩
          | true =>
            go_wp2
            go_roundw
            case rel =>
              refine ⟨k + 1, by go_num, by omega, Lib.hid (fun j s' hj hs' => ?_), ?_, HP3.out.far _ (by omega), ?_, HX.out.setCell (Nat.le_refl _) _⟩
              · by_cases e : j = k
                · subst e
                  rw [HS3.out] at hs'
                  cases hs'
                  rw [← HY.out]
                · exact HOK.out j s' (by omega) hs'
              · have := HB3.out.set k (.int .i64 y1)
                rw [HCN.out] at this
                exact this
              · exact fun i u hu => by
                  obtain ⟨a', e', hc'⟩ := HR3.out i u hu
                  obtain ⟨g, rfl, hgne⟩ := HNA.out a' e'
                  refine ⟨_, e', ?_⟩
                  rw [Addr.add_lit] at hc' ⊢
                  exact (cell_set_far _ (Ne.symm hgne)).trans hc'
            case measure => simp [intOf]; omega
        · obtain ⟨kk, rfl⟩ : ∃ x, x = k := ⟨_, rfl⟩
          have hk3 : kk = 3 := by omega
          have h3i : ¬ (kk : Int) < 3 := by omega
          have hva : (rdB sa).2 = true := HOK.out 0 sa (by omega) rfl
          have hvb : (rdB sb').2 = true := HOK.out 1 sb' (by omega) rfl
          have hvc : (rdB sc).2 = true := HOK.out 2 sc (by omega) rfl
          have hpa := parse_all HL.out hva hvb hvc
          rw [← HXA.out, ← HXB.out, ← HXC.out] at hpa
          obtain ⟨xa1, hxa1⟩ : ∃ x, x = xa.1 := ⟨_, rfl⟩
          obtain ⟨xb1, hxb1⟩ : ∃ x, x = xb.1 := ⟨_, rfl⟩
          obtain ⟨xc1, hxc1⟩ : ∃ x, x = xc.1 := ⟨_, rfl⟩
          rw [← hxa1, ← hxb1, ← hxc1] at hpa HB2
          have hcc : cmC xa1 xb1 xc1 kk = [.int .i64 xa1, .int .i64 xb1, .int .i64 xc1, .string ⟨#[]⟩, .string ⟨#[]⟩] := by rw [hk3]; rfl
          rw [hcc] at HB2
          have HPA := Lib.hid hpa
          obtain ⟨al, rfl, cl3⟩ := HR2.out 3 (.string sd) rfl
          obtain ⟨al', e', cl4⟩ := HR2.out 4 (.string se) rfl
          cases e'
          obtain ⟨g, e', hgne⟩ := HNA.out al rfl
          subst e'
          rw [Addr.add_lit] at cl3 cl4
          simp only [Nat.zero_add] at cl3 cl4
          clear hpa hxa1 hxb1 hxc1 hcc hva hvb hvc hk3 HOK HXA HXB HXC HPB
          have hcm := Blk.cm HB2.out
          have HCM := Lib.hid hcm
          obtain ⟨c0, c1, c2, c3, c4, f0, f1, f2, f3, f4, _⟩ := hcm
          dsimp only at c0 c1 c2 c3 c4
          go_upto_region 12 with (fail)
          go_region_held3 (fun w' => w'.cell? ⟨g, 3, none⟩ = some (.string sd) ∧ w'.cell? ⟨g, 4, none⟩ = some (.string se)) (first | (with_reducible exact ⟨cl3, cl4⟩) | exact ⟨(cell_set_far _ (Ne.symm hgne)).trans cl3, (cell_set_far _ (Ne.symm hgne)).trans cl4⟩ | exact ⟨(cell_set_far _ (Ne.symm hgne)).trans ((cell_set_far _ (Ne.symm hgne)).trans cl3), (cell_set_far _ (Ne.symm hgne)).trans ((cell_set_far _ (Ne.symm hgne)).trans cl4)⟩ | go_keep) (fail)
          obtain ⟨w4, hw4⟩ : ∃ w4, w4 = ((wr.setCell ⟨w.heap.size, 3, none⟩ (.string sd)).setCell ⟨w.heap.size, 4, none⟩ (.string se)).drew := ⟨_, rfl⟩
          have hx4 : Below w.heap.size w w4 := by rw [hw4]; exact below_drew ((HX.out.setCell (Nat.le_refl _) _).setCell (Nat.le_refl _) _)
          have hc4 : Cm w4 w.heap.size (xa1, xb1, xc1, sd, se) := by rw [hw4]; exact ((HCM.out.set3 sd).set4 se).drew
          rw [← hw4]
          clear hw4 HX HB2 HCM c0 c1 c2 c3 c4 f0 f1 f2 f3 f4
          have HX4 := Lib.hid hx4
          have HC4 := Lib.hid hc4
          clear hx4 hc4
          obtain ⟨c0, c1, c2, c3, c4, f0, f1, f2, f3, f4, _⟩ := HC4.out
          dsimp only at c0 c1 c2 c3 c4
          have HMY := Lib.hid (MayCommand_any w4 (xa1, xb1, xc1, sd, se))
          unfold cmdV at HMY
          dsimp only at HMY
          go_wp2_with fail
          refine HMY.out.mono ?_
          rintro e w5 ⟨rfl, hb⟩
          have HC5 := Lib.hid (HC4.out.ext hb (Nat.le_refl _))
          have HX : Hid (Below w.heap.size w w5) := HX4.out.trans (hb.mono HX4.out.size)
          clear c0 c1 c2 c3 c4 f0 f1 f2 f3 f4 hb HMY HC4 HX4
          obtain ⟨c0, c1, c2, c3, c4, f0, f1, f2, f3, f4, _⟩ := HC5.out
          dsimp only at c0 c1 c2 c3 c4
          by_cases hmay : mayC (xa1, xb1, xc1, sd, se)
          · rw [decide_eq_true hmay]
            have HPS : Hid (parseC bs = some (xa1, xb1, xc1, sd, se)) := by show _ = _; rw [HPA.out, if_pos hmay]
            clear hmay HPA
            go_wp2
            refine bodyPost_ret (v := .tuple #[.agg #[.int .i64 xa1, .int .i64 xb1, .int .i64 xc1, .string sd, .string se], .int .i64 0]) (by simp [results, Try.results34, go_sem, *]) rfl ?_
            exact ⟨((((HX.out.setCell (Nat.le_refl _) _).setCell (Nat.le_refl _) _).setCell (Nat.le_refl _) _).setCell (Nat.le_refl _) _).setCell (Nat.le_refl _) _, .inl ⟨_, HPS.out, rfl⟩⟩
          · rw [decide_eq_false hmay]
            have HPN : Hid (parseC bs = none) := by show _ = _; rw [HPA.out, if_neg hmay]
            clear hmay HPA
            go_wp2
            refine bodyPost_ret (v := .tuple #[.agg #[.int .i64 0, .int .i64 0, .int .i64 0, .string ⟨#[]⟩, .string ⟨#[]⟩], .int .i64 1]) (by simp [results, Try.results34, go_sem, *]) rfl ?_
            exact ⟨((((HX.out.setCell (Nat.le_refl _) _).setCell (Nat.le_refl _) _).setCell (Nat.le_refl _) _).setCell (Nat.le_refl _) _).setCell (Nat.le_refl _) _, .inr ⟨HPN.out, rfl⟩⟩
    · have HPN := Lib.hid (parse_len HL.out h5)
      have h5i : ((l.length : Int) != 5) = true := by rw [bne_iff_ne]; omega
      have hcm := Blk.cm HB1.out
      obtain ⟨c0, c1, c2, c3, c4, f0, f1, f2, f3, f4, _⟩ := hcm
      dsimp only at c0 c1 c2 c3 c4
      go_wp2
      refine bodyPost_ret (v := .tuple #[.agg #[.int .i64 0, .int .i64 0, .int .i64 0, .string ⟨#[]⟩, .string ⟨#[]⟩], .int .i64 1]) (by simp [results, Try.results34, go_sem, *]) rfl ?_
      exact ⟨((((HX.out.setCell (Nat.le_refl _) _).setCell (Nat.le_refl _) _).setCell (Nat.le_refl _) _).setCell (Nat.le_refl _) _).setCell (Nat.le_refl _) _, .inr ⟨HPN.out, rfl⟩⟩
end Go.Proofs.Ytpdnkhdnenibgaa
