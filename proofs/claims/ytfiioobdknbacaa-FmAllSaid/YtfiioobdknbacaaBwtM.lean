/- The walks of bwt.Make and lecternref3.Make. -/
import Derived.Test.YtfiioobdknbacaaBwtL
import Derived.Test.YtfiioobdknbacaaRefN
set_option linter.unusedVariables false
set_option linter.unusedSimpArgs false
namespace Go.Proofs.Ytfiioobdknbacaa
open Go.RowKit Lec
theorem natsC_snoc (xs : List Nat) (v : Nat) : natsC (xs ++ [v]) = natsC xs ++ [.int .i64 (v : Int)] := by simp [natsC]
def MakePost (w : World) (s : List Nat) (e : Ending) (w' : World) : Prop :=
  ∃ (b : List Nat) (v : Value), e = .returned (.tuple #[v, .int .i64 (Sa.atK (Sa.rowsL s b) (s.length + 1) : Int), .int .i64 0]) ∧ Sa.IsSA s b ∧ w'.ownsRow w.heap.size 3 1 v s.length (natsC (Sa.outL s (Sa.rowsL s b))) ∧ Below w.heap.size w w'
def RefMakePost (w : World) (s : List Nat) (e : Ending) (w' : World) : Prop :=
  ∃ (b : List Nat) (v : Value), e = .returned (.tuple #[v, .int .i64 (Sa.atK (Sa.rowsL s b) (s.length + 1) : Int)]) ∧ Sa.IsSA s b ∧ w'.ownsRow w.heap.size 3 1 v s.length (natsC (Sa.outL s (Sa.rowsL s b))) ∧ Below w.heap.size w w'

theorem Make_bad (w : World) (A : Option Addr) (n c : Nat) (L : List Int) (hn : L.length = n) (hm : n ≤ 1000000000) (hr : Rds w A (intsV L)) (hs : mayS 512 L = false) :
    Calls Try.prog 66 #[.slice A n c] w fun e w' => e = .returned (.tuple #[.slice none 0 0, .int .i64 0, .int .i64 1]) ∧ w = w' := by
  have HS := Lib.hid (Sort_bad w A n c L hn hm hr hs)
  clear hr hs hn
  go_enter Try.func66, Try.ntmps66
  go_wp2_with fail
  refine HS.out.mono ?_
  rintro e w1 ⟨rfl, rfl⟩
  go_wp2
  go_ret3
  exact ⟨rfl, rfl⟩

set_option maxRecDepth 100000 in
set_option maxHeartbeats 4000000 in
theorem Make_any (w : World) (A : Option Addr) (c : Nat) (s : List Nat) (hm : s.length ≤ 131072) (hr : Rds w A (natsC s)) (hA : A = none → s.length = 0 ∧ c = 0) (hs : ∀ x, x ∈ s → x < 512) :
    Calls Try.prog 66 #[.slice A s.length c] w (MakePost w s) := by
  have HR := Lib.hid hr
  have HS := Lib.hid (Sort_nat w A c s hm hr hA hs)
  clear hr hA hs
  go_enter Try.func66, Try.ntmps66
  go_wp2_with fail
  refine HS.out.mono ?_
  rintro e w1 ⟨A1, b, rfl, hown, hsa, hb1⟩
  obtain ⟨A1', c1', he1, p1, p2, p3, p4, _⟩ := own_rds hown
  obtain ⟨rfl, _, rfl⟩ := Value.slice.inj he1
  have HSA := Lib.hid hsa
  have HB1 := Lib.hid hb1
  have HA1 := Lib.hid p4
  have HP3 := Lib.hid p3
  obtain ⟨N, hN⟩ : ∃ N, N = 1 + s.length := ⟨_, rfl⟩
  have HN := Lib.hid hN
  clear hown hsa hb1 p1 p2 p3 p4 he1 HS hN
  have hbl : (natsC b).length = s.length * 1 := by simp [natsC, HSA.out.len]
  go_wp2_with (at_builtin; refine wp_app rfl _ _ 45 rfl w1.heap.size 3 (.int .i64 0) 1 8 Try.underlying45 info_int rfl (by decide) (by decide) (.slice (some ⟨w1.heap.size, 0, none⟩) 1 1) 1 [.int .i64 (s.length : Int)] rfl ((Blk.new w1 #[.int .i64 (s.length : Int)] 3).own 1 _ (Nat.le_refl _) (by decide) rfl) A1 s.length s.length (natsC b) rfl HP3.out hbl (HA1.out.ext ((Below.refl w1.heap.size w1).alloc (Nat.le_refl _) _) (Nat.le_refl _)) (natsC_one _) (by omega) (((Below.refl w1.heap.size w1).alloc (Nat.le_refl _) _).size) ?_; intro v' w3 hown' hg'; rw [← HN.out] at hown'; obtain ⟨A6, c6, rfl, _, _, p5, p6, _⟩ := own_rds hown'; have HG := Lib.hid hg'; have HR6 := Lib.hid p6; clear hown' hg' p5 p6)
  have HB3 : Hid (Below w1.heap.size w1 w3) := Lib.hid (((Below.refl w1.heap.size w1).alloc (Nat.le_refl _) _).grown HG.out (by simp [World.size_alloc]) (fun k hk => by simp [Value.ownBlock] at hk; omega))
  have HX3 := Lib.hid (HB1.out.trans (HB3.out.mono HB1.out.size))
  have HRS := Lib.hid (HR.out.ext HX3.out (Nat.le_refl _))
  obtain ⟨R, hR⟩ : ∃ R, R = Sa.rowsL s b := ⟨_, rfl⟩
  have hcells : [Value.int .i64 (s.length : Int)] ++ natsC b = natsC R := by rw [hR]; rfl
  rw [hcells] at HR6
  have HRR := Lib.hid hR
  have HRN : Hid (R.length = N) := Lib.hid (by rw [hR, Sa.rowsL_len HSA.out, HN.out]; omega)
  have HRM : Hid (∀ v, v ∈ R → v ≤ s.length) := Lib.hid (fun v hv => by rw [hR] at hv; exact (Sa.rowsL_mem HSA.out v).1 hv)
  have hNm : N ≤ 131073 := by have := HN.out; omega
  clear hbl hcells hR HG HB3 HP3 HA1
  go_wp2
  go_loopw [2, 3, 22] (fun v a i wr => ∃ k : Nat, k ≤ N ∧ i = .int .i64 (k : Int) ∧ a = .int .i64 (Sa.atK R k : Int) ∧ Hid (wr.ownsRow w3.heap.size 3 1 v (Sa.outL s (R.take k)).length (natsC (Sa.outL s (R.take k)))) ∧ Hid (Below w3.heap.size w3 wr)) (fun _ _ i _ => N - (intOf i).toNat)
  case atStart => exact ⟨0, by omega, rfl, rfl, World.ownsRow_nil _ _ _ _, Below.refl _ _⟩
  case round =>
    obtain ⟨k, hk, rfl, rfl, HO, HX⟩ := hrel
    by_cases h8 : k < N
    · have h8i : (k : Int) < (N : Int) := by omega
      have hk0 : (0 : Int) ≤ (k : Int) := by omega
      obtain ⟨v, hv⟩ : ∃ v, R[k]? = some v := ⟨_, List.getElem?_eq_getElem (by rw [HRN.out]; exact h8)⟩
      have HV := Lib.hid hv
      have hvn := HRM.out v (List.mem_iff_getElem?.2 ⟨k, hv⟩)
      obtain ⟨ar, rfl, cr⟩ := (HR6.out.ext HX.out (Nat.le_refl _)) k _ (natsC_at hv)
      clear hv
      by_cases hv0 : v = 0
      · have hvi : ((v : Int) == 0) = true := by rw [beq_iff_eq]; omega
        subst hv0
        go_wp2
        go_roundw
        case rel => exact ⟨k + 1, by omega, by go_num, by rw [Sa.atK_same HV.out], by show World.ownsRow _ _ _ _ _ _ _; rw [Sa.outL_same HV.out]; exact HO.out, HX.out⟩
        case measure => first | (simp [intOf]; done) | (simp [intOf]; omega)
      · have hvi : ((v : Int) == 0) = false := by rw [beq_eq_false_iff_ne]; omega
        have hv1 : (0 : Int) ≤ (v : Int) - 1 := by omega
        have hv2 : (v : Int) - 1 < (s.length : Int) := by omega
        have hv3 : ((v : Int) - 1).toNat = v - 1 := by omega
        obtain ⟨asl, rfl, csl⟩ := (HRS.out.ext HX.out (Nat.le_refl _)) (v - 1) _ (natsC_at (v := Sa.sy s (v - 1)) (by rw [List.getElem?_eq_getElem (show v - 1 < s.length by omega)]; simp [Sa.sy, List.getD_eq_getElem?_getD, show v - 1 < s.length by omega]))
        have HL := Lib.hid (Sa.outL_snoc (s := s) HV.out hv0)
        have HA := Lib.hid (Sa.atK_snoc HV.out hv0)
        have hle := Sa.outL_le s R k
        have hRN := HRN.out
        generalize Sa.sy s (v - 1) = x1 at *
        go_wp2_with (at_builtin; refine wp_app1 (w0 := wr) rfl rfl _ _ 45 rfl w3.heap.size 3 (.int .i64 0) 1 8 Try.underlying45 info_int rfl (by decide) (by decide) u2 _ _ rfl HO.out rfl rfl (one_cell1 rfl) (by omega) HX.out.size ?_; intro v' w' hown' hg' hb')
        go_roundw
        case rel => exact ⟨k + 1, by omega, by go_num, by rw [HA.out], by show World.ownsRow _ _ _ _ _ _ _; rw [HL.out, natsC_snoc, List.length_append]; exact hown', HX.out.trans hb'⟩
        case measure => first | (simp [intOf]; done) | (simp [intOf]; omega)
    · have hkN : N = k := by omega
      subst hkN
      have h8i : ¬ (N : Int) < (N : Int) := by omega
      have hfin := HO.out
      rw [List.take_of_length_le (by rw [HRN.out]; exact Nat.le_refl _), HRR.out, Sa.outL_len HSA.out] at hfin
      have HF := Lib.hid hfin
      clear hfin
      go_wp2
      go_ret3
      refine ⟨b, _, ?_, HSA.out, own_lower HF.out HX3.out.size, HX3.out.trans (HX.out.mono HX3.out.size)⟩
      rw [HRR.out, HN.out, Nat.add_comm]
      rfl

def RowsPost (w : World) (s : List Nat) (e : Ending) (w' : World) : Prop :=
  ∃ (b : List Nat) (v : Value), e = .returned v ∧ Sa.IsSA s b ∧ w'.ownsRow w.heap.size 3 1 v (1 + s.length) (natsC (Sa.rowsL s b)) ∧ Below w.heap.size w w'
theorem refRows_any (w : World) (A : Option Addr) (c : Nat) (s : List Nat) (hm : s.length ≤ 1000000) (hr : Rds w A (natsC s)) :
    Calls Try.prog 37 #[.slice A s.length c] w (RowsPost w s) := by
  have HB1 : Hid (Below w.heap.size w (w.alloc (.cells #[.int .i64 (s.length : Int)] 3))) := Lib.hid ((Below.refl w.heap.size w).alloc (Nat.le_refl _) _)
  have HBK : Hid (Blk (w.alloc (.cells #[.int .i64 (s.length : Int)] 3)) w.heap.size 3 [.int .i64 (s.length : Int)]) := Lib.hid (Blk.new w #[.int .i64 (s.length : Int)] 3)
  have HS := Lib.hid (refSort_any (w.alloc (.cells #[.int .i64 (s.length : Int)] 3)) A c s hm (hr.ext HB1.out (Nat.le_refl _)))
  clear hr
  go_enter Try.func37, Try.ntmps37
  go_wp2_with fail
  refine HS.out.mono ?_
  rintro e w2 ⟨C, cc, b, rfl, rb, q1, q2, hsa, hbe⟩
  have HSA := Lib.hid hsa
  have HRB := Lib.hid rb
  have HQ2 := Lib.hid q2
  have HB2 : Hid (Below w.heap.size w w2) := Lib.hid (HB1.out.trans (hbe.mono HB1.out.size))
  have HBK2 : Hid (Blk w2 w.heap.size 3 [.int .i64 (s.length : Int)]) := Lib.hid (HBK.out.ext hbe (Nat.le_refl _))
  clear rb q1 q2 hsa hbe HBK HS HB1
  have hbl : (natsC b).length = s.length * 1 := by simp [natsC, HSA.out.len]
  go_wp2_with (at_builtin; refine wp_app rfl _ _ 45 rfl w.heap.size 3 (.int .i64 0) 1 8 Try.underlying45 info_int rfl (by decide) (by decide) (.slice (some ⟨w.heap.size, 0, none⟩) 1 1) 1 [.int .i64 (s.length : Int)] rfl (HBK2.out.own 1 _ (Nat.le_refl _) (by decide) rfl) C s.length cc (natsC b) rfl HQ2.out hbl HRB.out (natsC_one _) (by omega) HB2.out.size ?_; intro v' w3 hown' hg'; have HO := Lib.hid hown'; have HG := Lib.hid hg'; clear hown' hg')
  go_ret
  refine ⟨b, _, rfl, HSA.out, HO.out, ?_⟩
  exact HB2.out.grown HG.out HB2.out.size (fun k hk => by simp [Value.ownBlock] at hk; omega)

set_option maxRecDepth 100000 in
set_option maxHeartbeats 4000000 in
theorem refMake_any (w : World) (A : Option Addr) (c : Nat) (s : List Nat) (hm : s.length ≤ 131072) (hr : Rds w A (natsC s)) :
    Calls Try.prog 40 #[.slice A s.length c] w (RefMakePost w s) := by
  have HR := Lib.hid hr
  have HS := Lib.hid (refRows_any w A c s (by omega) hr)
  clear hr
  go_enter Try.func40, Try.ntmps40
  go_wp2_with fail
  refine HS.out.mono ?_
  rintro e w3 ⟨b, v, rfl, hsa, hown', hb3⟩
  obtain ⟨N, hN⟩ : ∃ N, N = 1 + s.length := ⟨_, rfl⟩
  rw [← hN] at hown'
  obtain ⟨A6, c6, rfl, _, _, p5, p6, _⟩ := own_rds hown'
  have HN := Lib.hid hN
  have HSA := Lib.hid hsa
  have HX3 := Lib.hid hb3
  have HR6 := Lib.hid p6
  have HRS := Lib.hid (HR.out.ext hb3 (Nat.le_refl _))
  obtain ⟨R, hR⟩ : ∃ R, R = Sa.rowsL s b := ⟨_, rfl⟩
  rw [← hR] at HR6
  have HRR := Lib.hid hR
  have HRN : Hid (R.length = N) := Lib.hid (by rw [hR, Sa.rowsL_len HSA.out, HN.out]; omega)
  have HRM : Hid (∀ v, v ∈ R → v ≤ s.length) := Lib.hid (fun v hv => by rw [hR] at hv; exact (Sa.rowsL_mem HSA.out v).1 hv)
  have hNm : N ≤ 131073 := by have := HN.out; omega
  clear hown' hsa hb3 p5 p6 HS hN hR
  go_wp2
  go_loopw [5, 6, 7] (fun v a i wr => ∃ k : Nat, k ≤ N ∧ i = .int .i64 (k : Int) ∧ a = .int .i64 (Sa.atK R k : Int) ∧ Hid (wr.ownsRow w3.heap.size 3 1 v (Sa.outL s (R.take k)).length (natsC (Sa.outL s (R.take k)))) ∧ Hid (Below w3.heap.size w3 wr)) (fun _ _ i _ => N - (intOf i).toNat)
  case atStart => exact ⟨0, by omega, rfl, rfl, World.ownsRow_nil _ _ _ _, Below.refl _ _⟩
  case round =>
    obtain ⟨k, hk, rfl, rfl, HO, HX⟩ := hrel
    by_cases h8 : k < N
    · have h8i : (k : Int) < (N : Int) := by omega
      have hk0 : (0 : Int) ≤ (k : Int) := by omega
      obtain ⟨v, hv⟩ : ∃ v, R[k]? = some v := ⟨_, List.getElem?_eq_getElem (by rw [HRN.out]; exact h8)⟩
      have HV := Lib.hid hv
      have hvn := HRM.out v (List.mem_iff_getElem?.2 ⟨k, hv⟩)
      obtain ⟨ar, rfl, cr⟩ := (HR6.out.ext HX.out (Nat.le_refl _)) k _ (natsC_at hv)
      clear hv
      by_cases hv0 : v = 0
      · have hvi : ((v : Int) == 0) = true := by rw [beq_iff_eq]; omega
        subst hv0
        go_wp2
        go_roundw
        case rel => exact ⟨k + 1, by omega, by go_num, by rw [Sa.atK_same HV.out], by show World.ownsRow _ _ _ _ _ _ _; rw [Sa.outL_same HV.out]; exact HO.out, HX.out⟩
        case measure => first | (simp [intOf]; done) | (simp [intOf]; omega)
      · have hvi : ((v : Int) == 0) = false := by rw [beq_eq_false_iff_ne]; omega
        have hv1 : (0 : Int) ≤ (v : Int) - 1 := by omega
        have hv2 : (v : Int) - 1 < (s.length : Int) := by omega
        have hv3 : ((v : Int) - 1).toNat = v - 1 := by omega
        obtain ⟨asl, rfl, csl⟩ := (HRS.out.ext HX.out (Nat.le_refl _)) (v - 1) _ (natsC_at (v := Sa.sy s (v - 1)) (by rw [List.getElem?_eq_getElem (show v - 1 < s.length by omega)]; simp [Sa.sy, List.getD_eq_getElem?_getD, show v - 1 < s.length by omega]))
        have HL := Lib.hid (Sa.outL_snoc (s := s) HV.out hv0)
        have HA := Lib.hid (Sa.atK_snoc HV.out hv0)
        have hle := Sa.outL_le s R k
        have hRN := HRN.out
        generalize Sa.sy s (v - 1) = x1 at *
        go_wp2_with (at_builtin; refine wp_app1 (w0 := wr) rfl rfl _ _ 45 rfl w3.heap.size 3 (.int .i64 0) 1 8 Try.underlying45 info_int rfl (by decide) (by decide) u5 _ _ rfl HO.out rfl rfl (one_cell1 rfl) (by omega) HX.out.size ?_; intro v' w' hown' hg' hb')
        go_roundw
        case rel => exact ⟨k + 1, by omega, by go_num, by rw [HA.out], by show World.ownsRow _ _ _ _ _ _ _; rw [HL.out, natsC_snoc, List.length_append]; exact hown', HX.out.trans hb'⟩
        case measure => first | (simp [intOf]; done) | (simp [intOf]; omega)
    · have hkN : N = k := by omega
      subst hkN
      have h8i : ¬ (N : Int) < (N : Int) := by omega
      have hfin := HO.out
      rw [List.take_of_length_le (by rw [HRN.out]; exact Nat.le_refl _), HRR.out, Sa.outL_len HSA.out] at hfin
      have HF := Lib.hid hfin
      clear hfin
      go_wp2
      go_ret2
      refine ⟨b, _, ?_, HSA.out, own_lower HF.out HX3.out.size, HX3.out.trans (HX.out.mono HX3.out.size)⟩
      rw [HRR.out, HN.out, Nat.add_comm]
      rfl
end Go.Proofs.Ytfiioobdknbacaa
