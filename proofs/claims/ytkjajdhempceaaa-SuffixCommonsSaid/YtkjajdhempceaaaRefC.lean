/- The walk of lecternref3.Common. -/
import Derived.Test.YtkjajdhempceaaaCommon
set_option linter.unusedVariables false
set_option linter.unusedSimpArgs false
namespace Go.Proofs.Ytkjajdhempceaaa
open Go.RowKit Lec

theorem comL_snoc (s b : List Nat) (k : Nat) (hk : k < b.length) : natsC ((Sa.comL s b).take (k + 1)) = natsC ((Sa.comL s b).take k) ++ [.int .i64 (Sa.valC s b k : Int)] := by
  have h : k < (Sa.comL s b).length := by rw [Sa.comL_len]; exact hk
  rw [List.take_succ_eq_append_getElem h]
  have : (Sa.comL s b)[k] = Sa.valC s b k := by
    have := Sa.comL_at s b k hk
    rw [List.getElem?_eq_getElem h] at this
    injection this
  rw [this]
  simp [natsC]

def RefComPost (w : World) (s b : List Nat) (e : Ending) (w' : World) : Prop :=
  ∃ (C : Option Addr) (cc : Nat), e = .returned (.slice C s.length cc) ∧ Rds w' C (natsC (Sa.comL s b)) ∧ s.length ≤ cc ∧ (C = none → s.length = 0 ∧ cc = 0) ∧ Below w.heap.size w w'


set_option maxRecDepth 100000 in
set_option maxHeartbeats 4000000 in
theorem refCom_any (w : World) (A : Option Addr) (c : Nat) (s : List Nat) (hm : s.length ≤ 1000000) (hr : Rds w A (natsC s)) (B : Option Addr) (d : Nat) (b : List Nat) (hb : Rds w B (natsC b)) (hsa : Sa.IsSA s b) :
    Calls Try.prog 25 #[.slice A s.length c, .slice B s.length d] w (RefComPost w s b) := by
  have HR := Lib.hid hr
  have HB := Lib.hid hb
  have HSA := Lib.hid hsa
  have HBL := Lib.hid hsa.len
  clear hr hb hsa
  go_enter Try.func25, Try.ntmps25
  go_wp2
  go_loopw [5, 6] (fun v i wr => ∃ k : Nat, k ≤ s.length ∧ i = .int .i64 k ∧ Hid (wr.ownsRow w.heap.size 3 1 v k (natsC ((Sa.comL s b).take k))) ∧ Hid (Below w.heap.size w wr)) (fun _ i _ => s.length - (intOf i).toNat)
  case atStart => exact ⟨0, by omega, rfl, World.ownsRow_nil _ _ _ _, Below.refl _ _⟩
  case round =>
    obtain ⟨k, hk, rfl, HO, HX⟩ := hrel
    by_cases h8 : k < s.length
    · have h8i : (k : Int) < (s.length : Int) := by omega
      have hk0 : (0 : Int) ≤ (k : Int) := by omega
      have HL := Lib.hid (comL_snoc s b k (by rw [HBL.out]; exact h8))
      obtain ⟨v, hv⟩ : ∃ v, b[k]? = some v := ⟨_, List.getElem?_eq_getElem (by rw [HBL.out]; exact h8)⟩
      have hvn := HSA.out.lt v (List.mem_iff_getElem?.2 ⟨k, hv⟩)
      obtain ⟨w0, rfl⟩ : ∃ x, x = wr := ⟨wr, rfl⟩
      have HXS : Hid (w.heap.size ≤ w0.heap.size) := Lib.hid HX.out.size
      have HV := Lib.hid hv
      by_cases hk1 : k = 0
      · subst hk1
        have HALL : Hid (0 = Sa.valC s b 0) := Lib.hid rfl
        clear hv
        go_wp2
        go_loopw [7] (fun h wy => h = .int .i64 ((0 : Nat) : Int) ∧ w0 = wy) (fun h _ => 0)
        case atStart => exact ⟨rfl, rfl⟩
        case round =>
          obtain ⟨rfl, rfl⟩ := hrel
          rw [← HALL.out] at HL
          go_wp2
          go_quiet (fail)
          go_wp2_with (at_builtin; refine wp_app1 (w0 := w0.drewN _) rfl rfl _ _ 24 rfl w.heap.size 3 (.int .i64 0) 1 8 Try.underlying24 info_N rfl (by decide) (by decide) u5 0 _ rfl HO.out rfl rfl (one_cell1 rfl) (by omega) HXS.out ?_; intro v' w' hown' hg' hb')
          go_roundw
          case rel => exact ⟨0 + 1, by omega, by go_num, by show World.ownsRow _ _ _ _ _ _ _; rw [HL.out]; exact hown', HX.out.trans (((drawn_below _ _).mono HX.out.size).trans hb')⟩
          case measure => first | (simp [intOf]; done) | (simp [intOf]; omega)
      · obtain ⟨u, hu⟩ : ∃ u, b[k - 1]? = some u := ⟨_, List.getElem?_eq_getElem (by rw [HBL.out]; omega)⟩
        have hun := HSA.out.lt u (List.mem_iff_getElem?.2 ⟨k - 1, hu⟩)
        have HVAL : Hid (Sa.valC s b k = Sa.lcp s v u) := Lib.hid (by unfold Sa.valC; rw [if_neg hk1, Sa.getD_of hv, Sa.getD_of hu])
        have hle := Sa.lcp_le (s := s) (i := v) (j := u) (by omega)
        have hpos : 0 < k := by omega
        have hkt : ((k : Int) - 1).toNat = k - 1 := by omega
        have hk10 : (0 : Int) ≤ (k : Int) - 1 := by omega
        have hk1n : (k : Int) - 1 < (s.length : Int) := by omega
        have hkw : IntKind.i64.wrap ((k : Int) - 1) = (k : Int) - 1 := wrapI (by omega)
        have HU := Lib.hid hu
        obtain ⟨ab, rfl, cb⟩ := (HB.out.ext HX.out (Nat.le_refl _)) k _ (natsC_at hv)
        obtain ⟨ab', e', cb1⟩ := (HB.out.ext HX.out (Nat.le_refl _)) (k - 1) _ (natsC_at hu)
        obtain rfl := Option.some.inj e'
        clear e' hv hu hk1
        go_wp2
        go_loopw [7] (fun h wy => ∃ (h2 q : Nat), h = .int .i64 (h2 : Int) ∧ h2 ≤ Sa.lcp s v u ∧ wy = w0.drewN q) (fun h _ => s.length + 1 - (intOf h).toNat)
        case atStart => exact ⟨0, 0, rfl, by omega, rfl⟩
        case round =>
          obtain ⟨h2, q, rfl, hh2, rfl⟩ := hrel
          have v3 : IntKind.i64.wrap ((v : Int) + (h2 : Int)) = (v : Int) + (h2 : Int) := wrapI (by omega)
          have v4 : IntKind.i64.wrap ((u : Int) + (h2 : Int)) = (u : Int) + (h2 : Int) := wrapI (by omega)
          by_cases t1 : v + h2 < s.length
          · have t1i : (v : Int) + (h2 : Int) < (s.length : Int) := by omega
            by_cases t2 : u + h2 < s.length
            · have t2i : (u : Int) + (h2 : Int) < (s.length : Int) := by omega
              obtain ⟨al, rfl, c1⟩ := (HR.out.ext HX.out (Nat.le_refl _)) (v + h2) _ (natsC_at (v := Sa.sy s (v + h2)) (by rw [List.getElem?_eq_getElem t1]; simp [Sa.sy, List.getD_eq_getElem?_getD, t1]))
              obtain ⟨al', e', c2⟩ := (HR.out.ext HX.out (Nat.le_refl _)) (u + h2) _ (natsC_at (v := Sa.sy s (u + h2)) (by rw [List.getElem?_eq_getElem t2]; simp [Sa.sy, List.getD_eq_getElem?_getD, t2]))
              obtain rfl := Option.some.inj e'
              clear e'
              have n1 : (0 : Int) ≤ (v : Int) + (h2 : Int) := by omega
              have n2 : (0 : Int) ≤ (u : Int) + (h2 : Int) := by omega
              have v1 : ((v : Int) + (h2 : Int)).toNat = v + h2 := by omega
              have v2 : ((u : Int) + (h2 : Int)).toNat = u + h2 := by omega
              by_cases t3 : Sa.sy s (v + h2) = Sa.sy s (u + h2)
              · have HMORE := Lib.hid (Sa.lcp_more hh2 t1 t2 t3)
                have t3i : ((Sa.sy s (v + h2) : Int) == (Sa.sy s (u + h2) : Int)) = true := by rw [beq_iff_eq]; omega
                clear t3
                generalize Sa.sy s (v + h2) = x1 at *
                generalize Sa.sy s (u + h2) = x2 at *
                go_wp2
                go_quiet (fail)
                go_wp2
                go_roundw
                case rel => exact ⟨h2 + 1, _, by go_num, HMORE.out, by first | rfl | (rw [World.drewN_drewN])⟩
                case measure => first | (simp [intOf]; done) | (simp [intOf]; omega)
              · have HALL : Hid (h2 = Sa.valC s b k) := Lib.hid (by rw [HVAL.out]; exact Sa.lcp_all hh2 (fun h => t3 h.2.2))
                have t3i : ((Sa.sy s (v + h2) : Int) == (Sa.sy s (u + h2) : Int)) = false := by rw [beq_eq_false_iff_ne]; omega
                clear t3
                generalize Sa.sy s (v + h2) = x1 at *
                generalize Sa.sy s (u + h2) = x2 at *
                rw [← HALL.out] at HL
                go_wp2
                go_quiet (fail)
                go_wp2_with (at_builtin; refine wp_app1 (w0 := w0.drewN _) rfl rfl _ _ 24 rfl w.heap.size 3 (.int .i64 0) 1 8 Try.underlying24 info_N rfl (by decide) (by decide) u5 k _ rfl HO.out rfl rfl (one_cell1 rfl) (by omega) HXS.out ?_; intro v' w' hown' hg' hb')
                go_roundw
                case rel => exact ⟨k + 1, by omega, by go_num, by show World.ownsRow _ _ _ _ _ _ _; rw [HL.out]; exact hown', HX.out.trans (((drawn_below _ _).mono HX.out.size).trans hb')⟩
                case measure => first | (simp [intOf]; done) | (simp [intOf]; omega)
            · have HALL : Hid (h2 = Sa.valC s b k) := Lib.hid (by rw [HVAL.out]; exact Sa.lcp_all hh2 (fun h => t2 h.2.1))
              have t2i : decide ((u : Int) + (h2 : Int) < (s.length : Int)) = false := decide_eq_false (by omega)
              rw [← HALL.out] at HL
              go_wp2
              go_quiet (fail)
              go_wp2_with (at_builtin; refine wp_app1 (w0 := w0.drewN _) rfl rfl _ _ 24 rfl w.heap.size 3 (.int .i64 0) 1 8 Try.underlying24 info_N rfl (by decide) (by decide) u5 k _ rfl HO.out rfl rfl (one_cell1 rfl) (by omega) HXS.out ?_; intro v' w' hown' hg' hb')
              go_roundw
              case rel => exact ⟨k + 1, by omega, by go_num, by show World.ownsRow _ _ _ _ _ _ _; rw [HL.out]; exact hown', HX.out.trans (((drawn_below _ _).mono HX.out.size).trans hb')⟩
              case measure => first | (simp [intOf]; done) | (simp [intOf]; omega)
          · have HALL : Hid (h2 = Sa.valC s b k) := Lib.hid (by rw [HVAL.out]; exact Sa.lcp_all hh2 (fun h => t1 h.1))
            have t1i : decide ((v : Int) + (h2 : Int) < (s.length : Int)) = false := decide_eq_false (by omega)
            rw [← HALL.out] at HL
            go_wp2
            go_quiet (fail)
            go_wp2_with (at_builtin; refine wp_app1 (w0 := w0.drewN _) rfl rfl _ _ 24 rfl w.heap.size 3 (.int .i64 0) 1 8 Try.underlying24 info_N rfl (by decide) (by decide) u5 k _ rfl HO.out rfl rfl (one_cell1 rfl) (by omega) HXS.out ?_; intro v' w' hown' hg' hb')
            go_roundw
            case rel => exact ⟨k + 1, by omega, by go_num, by show World.ownsRow _ _ _ _ _ _ _; rw [HL.out]; exact hown', HX.out.trans (((drawn_below _ _).mono HX.out.size).trans hb')⟩
            case measure => first | (simp [intOf]; done) | (simp [intOf]; omega)
    · obtain rfl : k = s.length := by omega
      have h8i : ¬ (s.length : Int) < (s.length : Int) := by omega
      have hfin := HO.out
      rw [List.take_of_length_le (by rw [Sa.comL_len, HBL.out]; exact Nat.le_refl _)] at hfin
      obtain ⟨C, cc, rfl, q1, q2, q3, q4, _⟩ := own_rds hfin
      have HQ := Lib.hid q3
      have HQ4 := Lib.hid q4
      clear hfin q2 q3 q4
      go_wp2
      go_ret
      exact ⟨_, _, rfl, HQ4.out, q1, HQ.out, HX.out⟩
end Go.Proofs.Ytkjajdhempceaaa
