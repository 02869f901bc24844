/- The walks of a frame's end and same. -/
import Derived.Test.YtfiioobdknbacaaSufA
set_option linter.unusedVariables false
set_option linter.unusedSimpArgs false
namespace Go.Proofs.Ytfiioobdknbacaa
open Go.RowKit Lec
theorem end_any (w : World) (p : Nat) (s : List Nat) (K : Nat) (hf : Frm w p s K) (hm : s.length ≤ 131072) (v : Nat) (hv : Sa.Lms s v) :
    Calls Try.prog 143 #[.pointer (some ⟨p, 0, none⟩), .int .i64 (v : Int)] w fun e w' => e = .returned (.int .i64 (Sa.endP s v : Int)) ∧ w = w' := by
  obtain ⟨A, c, a1, a2, a3, a4, c4, a5, xs3, h0, h1, h2, h3, h4, h5, r0, r1, r2, r3, r4, r5, h6, h7⟩ := hf.out
  have hvl := hv.2.1
  obtain ⟨a, rfl, c5⟩ := r5 v _ (intsV_at (v := (Sa.idx s v : Int)) (by rw [List.getElem?_map, List.getElem?_range (by omega)]; simp [numb, (Sa.lmsB_iff s v).2 hv]))
  have hi := Sa.idx_lt hv
  have hh := Sa.lmsL_half s
  have hvi : (v : Int) < (s.length : Int) + 1 := by omega
  clear h1 h2 h3 r1 r2 r3 h7 r5 hf hv
  by_cases hl : Sa.idx s v + 1 < (Sa.lmsL s).length
  · obtain ⟨b, rfl, c4'⟩ := r4 (Sa.idx s v + 1) _ (natsC_at (List.getElem?_eq_getElem hl))
    rw [add_pos _ _ (by omega)] at c4'
    have HE : Hid (Sa.endP s v = (Sa.lmsL s)[Sa.idx s v + 1]) := Lib.hid (by unfold Sa.endP; rw [List.getElem?_eq_getElem hl]; rfl)
    have hli : (Sa.idx s v : Int) + 1 < ((Sa.lmsL s).length : Int) := by omega
    generalize (Sa.lmsL s)[Sa.idx s v + 1] = y at *
    generalize (Sa.lmsL s).length = M at *
    generalize Sa.idx s v = x at *
    go_enter Try.func143, Try.ntmps143
    go_wp2
    go_ret
    exact ⟨by rw [HE.out]; rfl, rfl⟩
  · have HE : Hid (Sa.endP s v = s.length) := Lib.hid (by unfold Sa.endP; rw [List.getElem?_eq_none (by omega)]; rfl)
    have hli : ¬ (Sa.idx s v : Int) + 1 < ((Sa.lmsL s).length : Int) := by omega
    generalize (Sa.lmsL s).length = M at *
    generalize Sa.idx s v = x at *
    go_enter Try.func143, Try.ntmps143
    go_wp2
    go_ret
    exact ⟨by rw [HE.out]; rfl, rfl⟩

set_option maxRecDepth 100000 in
theorem same_any (w : World) (p : Nat) (s : List Nat) (K : Nat) (hf : Frm w p s K) (hm : s.length ≤ 131072) (v u : Nat) (hv : Sa.Lms s v) (hu : Sa.Lms s u) :
    Calls Try.prog 137 #[.pointer (some ⟨p, 0, none⟩), .int .i64 (v : Int), .int .i64 (u : Int)] w fun e w' => e = .returned (.bool (Sa.sameB s v u)) ∧ ∃ q, w.drewN q = w' := by
  have HEV := Lib.hid (end_any w p s K hf hm v hv)
  have HEU := Lib.hid (end_any w p s K hf hm u hu)
  have HIF := Lib.hid (Sa.same_iff hv hu)
  have HSB := Lib.hid (Sa.sameB_iff s v u)
  have hev := Sa.endP_le s v hv
  have heu := Sa.endP_le s u hu
  have hvl := hv.2.1
  have hul := hu.2.1
  obtain ⟨A, c, a1, a2, a3, a4, c4, a5, xs3, h0, h1, h2, h3, h4, h5, r0, r1, r2, r3, r4, r5, h6, h7⟩ := hf.out
  have HR := Lib.hid r0
  clear h1 h2 h3 h4 h5 r0 r1 r2 r3 r4 r5 h7 hf h6
  generalize Sa.sameB s v u = B at *
  generalize Sa.endP s v = x at *
  generalize Sa.endP s u = y at *
  generalize hE : Sa.Eq' s v u = E at *
  clear hE
  by_cases hd : x - v = y - u
  · have hdi : (((x : Int) - (v : Int)) != ((y : Int) - (u : Int))) = false := by rw [bne_eq_false_iff_eq]; omega
    by_cases hx : x = s.length
    · have hxi : ((x : Int) == (s.length : Int)) = true := by rw [beq_iff_eq]; omega
      have HB : Hid (B = false) := Lib.hid (by
        cases B with
        | false => rfl
        | true => exact absurd hx (HIF.out.1 (HSB.out.1 rfl)).2.1)
      clear hd hx
      go_enter Try.func137, Try.ntmps137
      go_wp2_with fail
      refine HEV.out.mono ?_
      rintro e wq ⟨rfl, rfl⟩
      go_wp2_with fail
      refine HEU.out.mono ?_
      rintro e wq ⟨rfl, rfl⟩
      go_wp2
      go_ret
      exact ⟨by rw [HB.out]; rfl, 0, rfl⟩
    · have hxi : ((x : Int) == (s.length : Int)) = false := by rw [beq_eq_false_iff_ne]; omega
      by_cases hy : y = s.length
      · have hyi : ((y : Int) == (s.length : Int)) = true := by rw [beq_iff_eq]; omega
        have HB : Hid (B = false) := Lib.hid (by
          cases B with
          | false => rfl
          | true => exact absurd hy (HIF.out.1 (HSB.out.1 rfl)).2.2.1)
        clear hd hx hy
        go_enter Try.func137, Try.ntmps137
        go_wp2_with fail
        refine HEV.out.mono ?_
        rintro e wq ⟨rfl, rfl⟩
        go_wp2_with fail
        refine HEU.out.mono ?_
        rintro e wq ⟨rfl, rfl⟩
        go_wp2
        go_ret
        exact ⟨by rw [HB.out]; rfl, 0, rfl⟩
      · have hyi : ((y : Int) == (s.length : Int)) = false := by rw [beq_eq_false_iff_ne]; omega
        have HD := Lib.hid hd
        have hx1 : x < s.length := by omega
        have hy1 : y < s.length := by omega
        clear hd
        go_enter Try.func137, Try.ntmps137
        go_wp2_with fail
        refine HEV.out.mono ?_
        rintro e wq ⟨rfl, rfl⟩
        go_wp2_with fail
        refine HEU.out.mono ?_
        rintro e wq ⟨rfl, rfl⟩
        go_wp2
        clear hxi hyi hdi
        go_loopw [1, 2] (fun l r wr => ∃ (L R q : Nat), l = .int .i64 (L : Int) ∧ r = .int .i64 (R : Int) ∧ v ≤ L ∧ u ≤ R ∧ L - v ≤ x - v + 1 ∧ Hid (L - v = R - u) ∧ Hid (∀ i, i < L - v → Sa.sy s (v + i) = Sa.sy s (u + i)) ∧ wr = w.drewN q) (fun l _ _ => s.length + 1 - (intOf l).toNat)
        case atStart => exact ⟨v, u, 0, rfl, rfl, by omega, by omega, by omega, Lib.hid (by omega), Lib.hid (fun i hi => by omega), rfl⟩
        case round =>
          obtain ⟨L, R, q, rfl, rfl, hL, hR, hLx, HLR, HS, rfl⟩ := hrel
          by_cases hlx : L ≤ x
          · have hlxi : (L : Int) ≤ (x : Int) := by omega
            have hLn : L < s.length := by omega
            have hRn : R < s.length := by have := HLR.out; have := HD.out; omega
            obtain ⟨a, rfl, c1⟩ := HR.out L _ (natsC_at (v := Sa.sy s L) (by rw [List.getElem?_eq_getElem hLn]; simp [Sa.sy, List.getD_eq_getElem?_getD, hLn]))
            obtain ⟨a', e', c2⟩ := HR.out R _ (natsC_at (v := Sa.sy s R) (by rw [List.getElem?_eq_getElem hRn]; simp [Sa.sy, List.getD_eq_getElem?_getD, hRn]))
            obtain rfl := Option.some.inj e'
            clear e'
            have hLi0 : (0 : Int) ≤ (L : Int) := by omega
            have hRi0 : (0 : Int) ≤ (R : Int) := by omega
            have hLi : (L : Int) < (s.length : Int) := by omega
            have hRi : (R : Int) < (s.length : Int) := by omega
            by_cases he : Sa.sy s L = Sa.sy s R
            · have hne : ((Sa.sy s L : Int) != (Sa.sy s R : Int)) = false := by rw [bne_eq_false_iff_eq]; omega
              have HS2 : Hid (∀ i, i < L + 1 - v → Sa.sy s (v + i) = Sa.sy s (u + i)) := Lib.hid (fun i hi => by
                by_cases e : i = L - v
                · have := HLR.out
                  rw [show v + i = L by omega, show u + i = R by omega]; exact he
                · exact HS.out i (by omega))
              have HLR2 : Hid (L + 1 - v = R + 1 - u) := Lib.hid (by have := HLR.out; omega)
              clear he HS
              generalize Sa.sy s L = sl at *
              generalize Sa.sy s R = sr at *
              go_wp2
              go_quiet (fail)
              go_wp2
              go_roundw
              case rel => exact ⟨L + 1, R + 1, _, by go_num, by go_num, by omega, by omega, by omega, HLR2, HS2, rfl⟩
              case measure => simp [intOf]; omega
            · have hne : ((Sa.sy s L : Int) != (Sa.sy s R : Int)) = true := by rw [bne_iff_ne]; omega
              have HB : Hid (B = false) := Lib.hid (by
                cases B with
                | false => rfl
                | true =>
                  have h := (HIF.out.1 (HSB.out.1 rfl)).2.2.2 (L - v) (by omega)
                  have := HLR.out
                  rw [show v + (L - v) = L by omega, show u + (L - v) = R by omega] at h
                  exact absurd h he)
              clear he HS
              generalize Sa.sy s L = sl at *
              generalize Sa.sy s R = sr at *
              go_wp2
              go_quiet (fail)
              go_wp2
              go_ret
              exact ⟨by rw [HB.out]; rfl, by first | exact drawn2 _ _ _ | exact drawn1 _ _⟩
          · have hlxi : ¬ (L : Int) ≤ (x : Int) := by omega
            have HB : Hid (B = true) := Lib.hid (HSB.out.2 (HIF.out.2 ⟨HD.out, hx, hy, fun j hj => HS.out j (by omega)⟩))
            go_wp2
            go_ret
            exact ⟨by rw [HB.out]; rfl, q, rfl⟩
  · have hdi : (((x : Int) - (v : Int)) != ((y : Int) - (u : Int))) = true := by rw [bne_iff_ne]; omega
    have HB : Hid (B = false) := Lib.hid (by
      cases B with
      | false => rfl
      | true => exact absurd (HIF.out.1 (HSB.out.1 rfl)).1 hd)
    clear hd
    go_enter Try.func137, Try.ntmps137
    go_wp2_with fail
    refine HEV.out.mono ?_
    rintro e wq ⟨rfl, rfl⟩
    go_wp2_with fail
    refine HEU.out.mono ?_
    rintro e wq ⟨rfl, rfl⟩
    go_wp2
    go_ret
    exact ⟨by rw [HB.out]; rfl, 0, rfl⟩
end Go.Proofs.Ytfiioobdknbacaa
