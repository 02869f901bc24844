/- The walk of suffix.Common. -/
import Derived.Test.YtkjajdhempceaaaSortN
import Derived.Test.YtkjajdhempceaaaLcp
set_option linter.unusedVariables false
set_option linter.unusedSimpArgs false
namespace Go.Proofs.Ytkjajdhempceaaa
open Go.RowKit Lec
theorem checkE_nat {s : List Nat} (hm : s.length ≤ 131072) (hs : ∀ x, x ∈ s → x < 512) : checkE (s.map fun v : Nat => (v : Int)) = 0 := by
  unfold checkE; rw [if_pos (mayS_nat hs), if_pos (by simpa using hm)]
def ComPost (w : World) (s b : List Nat) (Av : List Int) (e : Ending) (w' : World) : Prop :=
  Below w.heap.size w w' ∧ ((Av = b.map (fun v : Nat => (v : Int)) ∧ ∃ C, e = .returned (.tuple #[.slice C s.length s.length, .int .i64 0]) ∧ Rds w' C (natsC (Sa.comL s b))) ∨
    (Av ≠ b.map (fun v : Nat => (v : Int)) ∧ e = .returned (.tuple #[.slice none 0 0, .int .i64 1])))

theorem Common_bad (w : World) (A : Option Addr) (n c : Nat) (L : List Int) (hn : L.length = n) (hm : n ≤ 1000000000) (hr : Rds w A (intsV L)) (B : Option Addr) (m d : Nat) (hbad : checkE L ≠ 0 ∨ m ≠ n) :
    Calls Try.prog 26 #[.slice A n c, .slice B m d] w fun e w' => e = .returned (.tuple #[.slice none 0 0, .int .i64 1]) ∧ w = w' := by
  have HCH := Lib.hid (check_any w A n c L hn hm hr)
  clear hr
  generalize checkE L = E at *
  by_cases hE : E = 0
  · subst hE
    have hmn : ((m : Int) != (n : Int)) = true := by rw [bne_iff_ne]; rcases hbad with h | h <;> omega
    clear hbad
    go_enter Try.func26, Try.ntmps26
    go_wp2_with fail
    refine HCH.out.mono ?_
    rintro e w1 ⟨rfl, rfl⟩
    go_wp2
    go_ret2
    exact ⟨rfl, rfl⟩
  · have hE0 : (E != 0) = true := by rw [bne_iff_ne]; exact hE
    clear hbad hE
    go_enter Try.func26, Try.ntmps26
    go_wp2_with fail
    refine HCH.out.mono ?_
    rintro e w1 ⟨rfl, rfl⟩
    go_wp2
    go_ret2
    exact ⟨rfl, rfl⟩

set_option maxRecDepth 100000 in
set_option maxHeartbeats 4000000 in
theorem Common_any (w : World) (A : Option Addr) (c : Nat) (s : List Nat) (hm : s.length ≤ 131072) (hr : Rds w A (natsC s)) (hA : A = none → s.length = 0 ∧ c = 0) (hs : ∀ x, x ∈ s → x < 512) (B : Option Addr) (d : Nat) (Av : List Int) (hl : Av.length = s.length) (ha : Rds w B (intsV Av)) (b : List Nat) (hsa : Sa.IsSA s b) :
    Calls Try.prog 26 #[.slice A s.length c, .slice B s.length d] w (ComPost w s b Av) := by
  have hch := check_any w A s.length c (s.map fun v : Nat => (v : Int)) (by simp) (by omega) (by rw [← natsC_ints]; exact hr)
  rw [checkE_nat hm hs] at hch
  have HCH := Lib.hid hch
  have HSORT := Lib.hid (Sort_nat w A c s hm hr hA hs)
  have HR := Lib.hid hr
  have HAV := Lib.hid ha
  have HAL := Lib.hid hl
  have HSA := Lib.hid hsa
  have HBL := Lib.hid hsa.len
  have hnn : ((s.length : Int) != (s.length : Int)) = false := by simp
  have hmk := mk_ints s.length (by omega)
  clear hch hr ha hl hsa hA hs
  go_enter Try.func26, Try.ntmps26
  go_wp2_with fail
  refine HCH.out.mono ?_
  rintro e w1 ⟨rfl, rfl⟩
  clear HCH
  go_wp2_with fail
  refine HSORT.out.mono ?_
  rintro e w2 ⟨A2, b', rfl, hown, hsa2, hb2⟩
  obtain rfl : b' = b := hsa2.eq HSA.out
  obtain ⟨A2', c2', he2, _, _, _, r2, _⟩ := own_rds hown
  obtain ⟨rfl, _, rfl⟩ := Value.slice.inj he2
  have HB2 := Lib.hid hb2
  have HR2 := Lib.hid r2
  have hws := hb2.size
  clear HSORT hown hsa2 hb2 r2 he2
  go_wp2
  obtain ⟨w4, hw4⟩ : ∃ w4, w4 = w2.alloc (.cells (Array.replicate s.length (.int .i64 0)) 3) := ⟨_, rfl⟩
  have hb4 : Blk w4 w2.heap.size 3 (natsC (List.replicate s.length 0)) := by rw [hw4]; exact Blk.newL _ _ _ _ _ rfl (by simp [natsC])
  have hbe4 : Below w2.heap.size w2 w4 := by rw [hw4]; exact (Below.refl _ _).alloc (Nat.le_refl _) _
  rw [← hw4]
  clear hw4
  go_loopw [36] (fun i wx => ∃ (m : Nat) (rk : List Nat), i = .int .i64 (m : Int) ∧ m ≤ s.length ∧ Hid (rk.length = s.length) ∧ Hid (∀ j v, j < m → b'[j]? = some v → Av[j]? = some (v : Int) ∧ rk[v]? = some j) ∧ Blk wx w2.heap.size 3 (natsC rk) ∧ Below w2.heap.size w2 wx) (fun i _ => s.length - (intOf i).toNat)
  case atStart => exact ⟨0, _, rfl, by omega, Lib.hid (by simp), Lib.hid (fun j v hj => by omega), hb4, hbe4⟩
  case round =>
    clear hb4 hbe4
    obtain ⟨m, rk, rfl, hmM, HRL, HRK, hba, hbe⟩ := hrel
    have hbw := HB2.out.trans (hbe.mono hws)
    by_cases hm2 : m < s.length
    · have hmi : (m : Int) < (s.length : Int) := by omega
      have hm0 : (0 : Int) ≤ (m : Int) := by omega
      obtain ⟨v, hv⟩ : ∃ v, b'[m]? = some v := ⟨_, List.getElem?_eq_getElem (by rw [HBL.out]; exact hm2)⟩
      obtain ⟨y, hy⟩ : ∃ y, Av[m]? = some y := ⟨_, List.getElem?_eq_getElem (by rw [HAL.out]; exact hm2)⟩
      have hvl := HSA.out.lt v (List.mem_iff_getElem?.2 ⟨m, hv⟩)
      obtain ⟨ab, rfl, cb⟩ := (HR2.out.ext hbe (Nat.le_refl _)) m _ (natsC_at hv)
      obtain ⟨aa, rfl, ca⟩ := (HAV.out.ext hbw (Nat.le_refl _)) m _ (intsV_at hy)
      obtain ⟨z, hz⟩ : ∃ z, rk[v]? = some z := ⟨_, List.getElem?_eq_getElem (by rw [HRL.out]; exact hvl)⟩
      have cr := hba.cell (natsC_at hz)
      have fr := hba.froz v
      have hvi : (v : Int) < (s.length : Int) := by omega
      have hv0 : (0 : Int) ≤ (v : Int) := by omega
      by_cases hyv : y = (v : Int)
      · subst hyv
        have hne : ((v : Int) != (v : Int)) = false := by simp
        have hb5 := hba.set v (.int .i64 (m : Int))
        rw [← natsC_set] at hb5
        have HB5 := Lib.hid hb5
        have HV := Lib.hid hv
        have HY := Lib.hid hy
        clear hv hy hz hb5
        go_wp2
        go_roundw
        case rel =>
          refine ⟨m + 1, _, by go_num, by omega, Lib.hid (by rw [List.length_set]; exact HRL.out), Lib.hid (fun j u hj hu => ?_), HB5.out, hbe.setCell (Nat.le_refl _) _⟩
          rw [List.getElem?_set]
          by_cases e : j = m
          · subst e
            rw [HV.out] at hu; injection hu with hu
            subst hu
            exact ⟨HY.out, by simp [HRL.out, hvl]⟩
          · have hne2 : v ≠ u := fun h => by
              subst h
              have := HSA.out.nodup
              rw [List.nodup_iff_pairwise_ne, List.pairwise_iff_getElem] at this
              obtain ⟨a1, b1⟩ := List.getElem?_eq_some_iff.1 HV.out
              obtain ⟨a2, b2⟩ := List.getElem?_eq_some_iff.1 hu
              exact this j m a2 a1 (by omega) (b2.trans b1.symm)
            rw [if_neg hne2]
            exact HRK.out j u (by omega) hu
        case measure => first | (simp [intOf]; done) | (simp [intOf]; omega)
      · have hne : (y != (v : Int)) = true := by rw [bne_iff_ne]; exact hyv
        have HBAD : Hid (Av ≠ b'.map (fun v : Nat => (v : Int))) := Lib.hid (fun h => by
          rw [h, List.getElem?_map, hv] at hy
          injection hy with hy
          exact hyv hy.symm)
        clear hyv hv hy hz
        go_wp2
        go_ret2
        exact ⟨hbw, .inr ⟨HBAD.out, rfl⟩⟩
    · obtain rfl : m = s.length := by omega
      have hmi : ¬ (s.length : Int) < (s.length : Int) := by omega
      have HEQ : Hid (Av = b'.map (fun v : Nat => (v : Int))) := Lib.hid (List.ext_getElem? (fun j => by
        by_cases hj : j < s.length
        · have hjb : j < b'.length := by rw [HBL.out]; exact hj
          rw [(HRK.out j _ hj (List.getElem?_eq_getElem hjb)).1, List.getElem?_map, List.getElem?_eq_getElem hjb]; rfl
        · rw [List.getElem?_eq_none (by rw [HAL.out]; omega), List.getElem?_eq_none (by rw [List.length_map, HBL.out]; omega)]))
      go_wp2
      clear hmk hnn
      obtain ⟨w0, rfl⟩ : ∃ x, x = wr := ⟨wr, rfl⟩
      obtain ⟨w5, hw5⟩ : ∃ w5, w5 = w0.alloc (.cells (Array.replicate s.length (.int .i64 0)) 3) := ⟨_, rfl⟩
      have hb5 : Blk w5 w0.heap.size 3 (natsC (List.replicate s.length 0)) := by rw [hw5]; exact Blk.newL _ _ _ _ _ rfl (by simp [natsC])
      have hbe5 : Below w0.heap.size w0 w5 := by rw [hw5]; exact (Below.refl _ _).alloc (Nat.le_refl _) _
      rw [← hw5]
      clear hw5
      have hw0 := hbw.size
      go_loopw [12, 57] (fun h i wx => ∃ (m hh : Nat) (cl : List Nat), i = .int .i64 (m : Int) ∧ m ≤ s.length ∧ h = .int .i64 (hh : Int) ∧ hh ≤ s.length ∧ Hid (cl.length = s.length) ∧ Hid (∀ r v, b'[r]? = some v → (r = 0 ∨ v < m) → cl[r]? = some (Sa.valC s b' r)) ∧ Hid (∀ r, b'[r]? = some m → 0 < r → hh ≤ Sa.valC s b' r) ∧ Blk wx w0.heap.size 3 (natsC cl) ∧ Below w0.heap.size w0 wx) (fun _ i _ => s.length - (intOf i).toNat)
      case atStart =>
        refine ⟨0, 0, _, rfl, by omega, rfl, by omega, Lib.hid (by simp), Lib.hid (fun r v hr hv => ?_), Lib.hid (fun r _ _ => Nat.zero_le _), hb5, hbe5⟩
        rcases hv with rfl | hv
        · rw [List.getElem?_replicate, if_pos (by have := (List.getElem?_eq_some_iff.1 hr).1; have := HBL.out; omega)]; rfl
        · omega
      case round =>
        clear hb5 hbe5
        obtain ⟨m, hh, cl, rfl, hmn, rfl, hhn, HCL, HCV, HHV, hbc, hbe5⟩ := hrel
        have hbw5 := hbw.trans (hbe5.mono hw0)
        by_cases hm3 : m < s.length
        · have hmi3 : (m : Int) < (s.length : Int) := by omega
          have hm0 : (0 : Int) ≤ (m : Int) := by omega
          obtain ⟨r, hr⟩ := List.mem_iff_getElem?.1 ((HSA.out.mem m).2 hm3)
          have hrn : r < s.length := by have := (List.getElem?_eq_some_iff.1 hr).1; rw [HBL.out] at this; exact this
          have hrk := (HRK.out r m hrn hr).2
          have crk := (hba.extlt hbe5 hba.lt).cell (natsC_at hrk)
          have HRR := Lib.hid hr
          clear hr hrk
          by_cases hr0 : r = 0
          · have hr0i : ((r : Int) == 0) = true := by rw [beq_iff_eq]; omega
            have HR0 := Lib.hid hr0
            clear hr0
            go_wp2
            go_roundw
            case rel =>
              refine ⟨m + 1, 0, cl, by go_num, by omega, rfl, by omega, HCL, Lib.hid (fun r' v' hr' hv' => ?_), Lib.hid (fun r' _ _ => Nat.zero_le _), hbc, hbe5⟩
              by_cases e : r' = 0 ∨ v' < m
              · exact HCV.out r' v' hr' e
              · obtain rfl : v' = m := by omega
                rcases Nat.lt_trichotomy r r' with k | k | k
                · exact absurd (HSA.out.lt_at k HRR.out hr') (List.lt_irrefl _)
                · subst k; exact HCV.out _ _ hr' (.inl HR0.out)
                · exact absurd (HSA.out.lt_at k hr' HRR.out) (List.lt_irrefl _)
            case measure => first | (simp [intOf]; done) | (simp [intOf]; omega)
          · have hr0i : ((r : Int) == 0) = false := by rw [beq_eq_false_iff_ne]; omega
            obtain ⟨u, hu⟩ : ∃ u, b'[r - 1]? = some u := ⟨_, List.getElem?_eq_getElem (by rw [HBL.out]; omega)⟩
            have hun := HSA.out.lt u (List.mem_iff_getElem?.2 ⟨r - 1, hu⟩)
            obtain ⟨aa, rfl, ca⟩ := (HAV.out.ext hbw5 (Nat.le_refl _)) (r - 1) _ (intsV_at (HRK.out (r - 1) u (by omega) hu).1)
            have hrt : ((r : Int) - 1).toNat = r - 1 := by omega
            have hri0 : (0 : Int) ≤ (r : Int) - 1 := by omega
            have hri1 : (r : Int) - 1 < (s.length : Int) := by omega
            have hrpos : 0 < r := by omega
            have HVAL : Hid (Sa.valC s b' r = Sa.lcp s m u) := Lib.hid (by unfold Sa.valC; rw [if_neg hr0, Sa.getD_of HRR.out, Sa.getD_of hu])
            have hle := Sa.lcp_le (s := s) (i := m) (j := u) (by omega)
            have hh1 : hh ≤ Sa.lcp s m u := by have := HHV.out r HRR.out hrpos; rw [HVAL.out] at this; exact this
            clear hu hr0
            go_wp2
            clear hrt
            go_loopw [12] (fun h wy => ∃ (h2 q : Nat), h = .int .i64 (h2 : Int) ∧ h2 ≤ Sa.lcp s m u ∧ wy = wr.drewN q) (fun h _ => s.length + 1 - (intOf h).toNat)
            case atStart => exact ⟨hh, 0, rfl, hh1, rfl⟩
            case round =>
              obtain ⟨h2, q, rfl, hh2, rfl⟩ := hrel
              by_cases t1 : m + h2 < s.length
              · have t1i : (m : Int) + (h2 : Int) < (s.length : Int) := by omega
                by_cases t2 : u + h2 < s.length
                · have t2i : (u : Int) + (h2 : Int) < (s.length : Int) := by omega
                  obtain ⟨al, rfl, c1⟩ := (HR.out.ext hbw5 (Nat.le_refl _)) (m + h2) _ (natsC_at (v := Sa.sy s (m + h2)) (by rw [List.getElem?_eq_getElem t1]; simp [Sa.sy, List.getD_eq_getElem?_getD, t1]))
                  obtain ⟨al', e', c2⟩ := (HR.out.ext hbw5 (Nat.le_refl _)) (u + h2) _ (natsC_at (v := Sa.sy s (u + h2)) (by rw [List.getElem?_eq_getElem t2]; simp [Sa.sy, List.getD_eq_getElem?_getD, t2]))
                  obtain rfl := Option.some.inj e'
                  clear e'
                  by_cases t3 : Sa.sy s (m + h2) = Sa.sy s (u + h2)
                  · have HMORE := Lib.hid (Sa.lcp_more hh2 t1 t2 t3)
                    have t3i : ((Sa.sy s (m + h2) : Int) == (Sa.sy s (u + h2) : Int)) = true := by rw [beq_iff_eq]; omega
                    clear t3
                    generalize Sa.sy s (m + h2) = x1 at *
                    generalize Sa.sy s (u + h2) = x2 at *
                    have n1 : (0 : Int) ≤ (m : Int) + (h2 : Int) := by omega
                    have n2 : (0 : Int) ≤ (u : Int) + (h2 : Int) := by omega
                    have v1 : ((m : Int) + (h2 : Int)).toNat = m + h2 := by omega
                    have v2 : ((u : Int) + (h2 : Int)).toNat = u + h2 := by omega
                    have v3 : IntKind.i64.wrap ((m : Int) + (h2 : Int)) = (m : Int) + (h2 : Int) := wrapI (by omega)
                    have v4 : IntKind.i64.wrap ((u : Int) + (h2 : Int)) = (u : Int) + (h2 : Int) := wrapI (by omega)
                    go_wp2
                    go_quiet (fail)
                    go_wp2
                    go_roundw
                    case rel => exact ⟨h2 + 1, _, by go_num, HMORE.out, by first | rfl | (rw [World.drewN_drewN])⟩
                    case measure => first | (simp [intOf]; done) | (simp [intOf]; omega)
                  · have HALL := Lib.hid (Sa.lcp_all hh2 (fun h => t3 h.2.2))
                    have t3i : ((Sa.sy s (m + h2) : Int) == (Sa.sy s (u + h2) : Int)) = false := by rw [beq_eq_false_iff_ne]; omega
                    clear t3
                    generalize Sa.sy s (m + h2) = x1 at *
                    generalize Sa.sy s (u + h2) = x2 at *
                    have n1 : (0 : Int) ≤ (m : Int) + (h2 : Int) := by omega
                    have n2 : (0 : Int) ≤ (u : Int) + (h2 : Int) := by omega
                    have v1 : ((m : Int) + (h2 : Int)).toNat = m + h2 := by omega
                    have v2 : ((u : Int) + (h2 : Int)).toNat = u + h2 := by omega
                    have v3 : IntKind.i64.wrap ((m : Int) + (h2 : Int)) = (m : Int) + (h2 : Int) := wrapI (by omega)
                    have v4 : IntKind.i64.wrap ((u : Int) + (h2 : Int)) = (u : Int) + (h2 : Int) := wrapI (by omega)
                    obtain ⟨y, hy⟩ : ∃ y, cl[r]? = some y := ⟨_, List.getElem?_eq_getElem (by rw [HCL.out]; exact hrn)⟩
                    have cc := hbc.cell (natsC_at hy)
                    have fc := hbc.froz r
                    have hb7 := hbc.set r (.int .i64 (h2 : Int))
                    rw [← natsC_set] at hb7
                    have HB7 := Lib.hid hb7
                    have hrni : (r : Int) < (s.length : Int) := by omega
                    have hri00 : (0 : Int) ≤ (r : Int) := by omega
                    have HCV2 : Hid (∀ r' v', b'[r']? = some v' → (r' = 0 ∨ v' < m + 1) → (cl.set r h2)[r']? = some (Sa.valC s b' r')) := Lib.hid (fun r' v' hr' hv' => by
                      rw [List.getElem?_set]
                      by_cases e : r = r'
                      · subst e
                        simp [HCL.out, hrn, HVAL.out, HALL.out]
                      · rw [if_neg e]
                        refine HCV.out r' v' hr' ?_
                        rcases hv' with h | h
                        · exact .inl h
                        · by_cases e2 : v' = m
                          · subst e2
                            rcases Nat.lt_trichotomy r r' with k | k | k
                            · exact absurd (HSA.out.lt_at k HRR.out hr') (List.lt_irrefl _)
                            · exact absurd k e
                            · exact absurd (HSA.out.lt_at k hr' HRR.out) (List.lt_irrefl _)
                          · exact .inr (by omega))
                    have HKA : Hid (∀ r', b'[r']? = some (m + 1) → 0 < r' → h2 - 1 ≤ Sa.valC s b' r') := Lib.hid (fun r' hr' _ => by
                      by_cases e : 1 < h2
                      · have := (HSA.out.kasai HRR.out hrpos hr' (by rw [HVAL.out, ← HALL.out]; exact e)).2
                        rw [HVAL.out, ← HALL.out] at this
                        exact this
                      · omega)
                    have h2n : h2 ≤ s.length := by omega
                    clear hy hb7 hh2 hh1
                    go_wp2
                    go_quiet (fail)
                    clear v3 v4 t1i
                    try clear t2i
                    obtain ⟨h3, hz3⟩ : ∃ h3 : Nat, h3 = h2 - 1 := ⟨_, rfl⟩
                    have HZM : Hid ((if (1 : Int) < (h2 : Int) then (h2 : Int) - 1 else 0) = (h3 : Int)) := Lib.hid (by split <;> omega)
                    have HKA3 : Hid (∀ r', b'[r']? = some (m + 1) → 0 < r' → h3 ≤ Sa.valC s b' r') := Lib.hid (by rw [hz3]; exact HKA.out)
                    have h3n : h3 ≤ s.length := by omega
                    clear hz3 HKA
                    go_wp2
                    first
                      | exact ⟨⟨m + 1, h3, _, by go_num, by omega, congrArg (Value.int .i64) HZM.out, h3n, Lib.hid (by rw [List.length_set]; exact HCL.out), HCV2, HKA3, HB7.out, Below.setCell (hbe5.trans ((drawn_below _ _).mono hbe5.size)) (Nat.le_refl _) _⟩, by first | (simp [intOf]; done) | (simp [intOf]; omega)⟩
                      | (go_roundw
                         · exact ⟨m + 1, h3, _, by go_num, by omega, congrArg (Value.int .i64) HZM.out, h3n, Lib.hid (by rw [List.length_set]; exact HCL.out), HCV2, HKA3, HB7.out, Below.setCell (hbe5.trans ((drawn_below _ _).mono hbe5.size)) (Nat.le_refl _) _⟩
                         · first | (simp [intOf]; done) | (simp [intOf]; omega))
                · have HALL := Lib.hid (Sa.lcp_all hh2 (fun h => t2 h.2.1))
                  have t2i : decide ((u : Int) + (h2 : Int) < (s.length : Int)) = false := decide_eq_false (by omega)
                  have v3 : IntKind.i64.wrap ((m : Int) + (h2 : Int)) = (m : Int) + (h2 : Int) := wrapI (by omega)
                  have v4 : IntKind.i64.wrap ((u : Int) + (h2 : Int)) = (u : Int) + (h2 : Int) := wrapI (by omega)
                  obtain ⟨y, hy⟩ : ∃ y, cl[r]? = some y := ⟨_, List.getElem?_eq_getElem (by rw [HCL.out]; exact hrn)⟩
                  have cc := hbc.cell (natsC_at hy)
                  have fc := hbc.froz r
                  have hb7 := hbc.set r (.int .i64 (h2 : Int))
                  rw [← natsC_set] at hb7
                  have HB7 := Lib.hid hb7
                  have hrni : (r : Int) < (s.length : Int) := by omega
                  have hri00 : (0 : Int) ≤ (r : Int) := by omega
                  have HCV2 : Hid (∀ r' v', b'[r']? = some v' → (r' = 0 ∨ v' < m + 1) → (cl.set r h2)[r']? = some (Sa.valC s b' r')) := Lib.hid (fun r' v' hr' hv' => by
                    rw [List.getElem?_set]
                    by_cases e : r = r'
                    · subst e
                      simp [HCL.out, hrn, HVAL.out, HALL.out]
                    · rw [if_neg e]
                      refine HCV.out r' v' hr' ?_
                      rcases hv' with h | h
                      · exact .inl h
                      · by_cases e2 : v' = m
                        · subst e2
                          rcases Nat.lt_trichotomy r r' with k | k | k
                          · exact absurd (HSA.out.lt_at k HRR.out hr') (List.lt_irrefl _)
                          · exact absurd k e
                          · exact absurd (HSA.out.lt_at k hr' HRR.out) (List.lt_irrefl _)
                        · exact .inr (by omega))
                  have HKA : Hid (∀ r', b'[r']? = some (m + 1) → 0 < r' → h2 - 1 ≤ Sa.valC s b' r') := Lib.hid (fun r' hr' _ => by
                    by_cases e : 1 < h2
                    · have := (HSA.out.kasai HRR.out hrpos hr' (by rw [HVAL.out, ← HALL.out]; exact e)).2
                      rw [HVAL.out, ← HALL.out] at this
                      exact this
                    · omega)
                  have h2n : h2 ≤ s.length := by omega
                  clear hy hb7 hh2 hh1
                  go_wp2
                  go_quiet (fail)
                  clear v3 v4 t1i
                  try clear t2i
                  obtain ⟨h3, hz3⟩ : ∃ h3 : Nat, h3 = h2 - 1 := ⟨_, rfl⟩
                  have HZM : Hid ((if (1 : Int) < (h2 : Int) then (h2 : Int) - 1 else 0) = (h3 : Int)) := Lib.hid (by split <;> omega)
                  have HKA3 : Hid (∀ r', b'[r']? = some (m + 1) → 0 < r' → h3 ≤ Sa.valC s b' r') := Lib.hid (by rw [hz3]; exact HKA.out)
                  have h3n : h3 ≤ s.length := by omega
                  clear hz3 HKA
                  go_wp2
                  first
                    | exact ⟨⟨m + 1, h3, _, by go_num, by omega, congrArg (Value.int .i64) HZM.out, h3n, Lib.hid (by rw [List.length_set]; exact HCL.out), HCV2, HKA3, HB7.out, Below.setCell (hbe5.trans ((drawn_below _ _).mono hbe5.size)) (Nat.le_refl _) _⟩, by first | (simp [intOf]; done) | (simp [intOf]; omega)⟩
                    | (go_roundw
                       · exact ⟨m + 1, h3, _, by go_num, by omega, congrArg (Value.int .i64) HZM.out, h3n, Lib.hid (by rw [List.length_set]; exact HCL.out), HCV2, HKA3, HB7.out, Below.setCell (hbe5.trans ((drawn_below _ _).mono hbe5.size)) (Nat.le_refl _) _⟩
                       · first | (simp [intOf]; done) | (simp [intOf]; omega))
              · have HALL := Lib.hid (Sa.lcp_all hh2 (fun h => t1 h.1))
                have t1i : decide ((m : Int) + (h2 : Int) < (s.length : Int)) = false := decide_eq_false (by omega)
                have v3 : IntKind.i64.wrap ((m : Int) + (h2 : Int)) = (m : Int) + (h2 : Int) := wrapI (by omega)
                have v4 : IntKind.i64.wrap ((u : Int) + (h2 : Int)) = (u : Int) + (h2 : Int) := wrapI (by omega)
                obtain ⟨y, hy⟩ : ∃ y, cl[r]? = some y := ⟨_, List.getElem?_eq_getElem (by rw [HCL.out]; exact hrn)⟩
                have cc := hbc.cell (natsC_at hy)
                have fc := hbc.froz r
                have hb7 := hbc.set r (.int .i64 (h2 : Int))
                rw [← natsC_set] at hb7
                have HB7 := Lib.hid hb7
                have hrni : (r : Int) < (s.length : Int) := by omega
                have hri00 : (0 : Int) ≤ (r : Int) := by omega
                have HCV2 : Hid (∀ r' v', b'[r']? = some v' → (r' = 0 ∨ v' < m + 1) → (cl.set r h2)[r']? = some (Sa.valC s b' r')) := Lib.hid (fun r' v' hr' hv' => by
                  rw [List.getElem?_set]
                  by_cases e : r = r'
                  · subst e
                    simp [HCL.out, hrn, HVAL.out, HALL.out]
                  · rw [if_neg e]
                    refine HCV.out r' v' hr' ?_
                    rcases hv' with h | h
                    · exact .inl h
                    · by_cases e2 : v' = m
                      · subst e2
                        rcases Nat.lt_trichotomy r r' with k | k | k
                        · exact absurd (HSA.out.lt_at k HRR.out hr') (List.lt_irrefl _)
                        · exact absurd k e
                        · exact absurd (HSA.out.lt_at k hr' HRR.out) (List.lt_irrefl _)
                      · exact .inr (by omega))
                have HKA : Hid (∀ r', b'[r']? = some (m + 1) → 0 < r' → h2 - 1 ≤ Sa.valC s b' r') := Lib.hid (fun r' hr' _ => by
                  by_cases e : 1 < h2
                  · have := (HSA.out.kasai HRR.out hrpos hr' (by rw [HVAL.out, ← HALL.out]; exact e)).2
                    rw [HVAL.out, ← HALL.out] at this
                    exact this
                  · omega)
                have h2n : h2 ≤ s.length := by omega
                clear hy hb7 hh2 hh1
                go_wp2
                go_quiet (fail)
                clear v3 v4 t1i
                try clear t2i
                obtain ⟨h3, hz3⟩ : ∃ h3 : Nat, h3 = h2 - 1 := ⟨_, rfl⟩
                have HZM : Hid ((if (1 : Int) < (h2 : Int) then (h2 : Int) - 1 else 0) = (h3 : Int)) := Lib.hid (by split <;> omega)
                have HKA3 : Hid (∀ r', b'[r']? = some (m + 1) → 0 < r' → h3 ≤ Sa.valC s b' r') := Lib.hid (by rw [hz3]; exact HKA.out)
                have h3n : h3 ≤ s.length := by omega
                clear hz3 HKA
                go_wp2
                first
                  | exact ⟨⟨m + 1, h3, _, by go_num, by omega, congrArg (Value.int .i64) HZM.out, h3n, Lib.hid (by rw [List.length_set]; exact HCL.out), HCV2, HKA3, HB7.out, Below.setCell (hbe5.trans ((drawn_below _ _).mono hbe5.size)) (Nat.le_refl _) _⟩, by first | (simp [intOf]; done) | (simp [intOf]; omega)⟩
                  | (go_roundw
                     · exact ⟨m + 1, h3, _, by go_num, by omega, congrArg (Value.int .i64) HZM.out, h3n, Lib.hid (by rw [List.length_set]; exact HCL.out), HCV2, HKA3, HB7.out, Below.setCell (hbe5.trans ((drawn_below _ _).mono hbe5.size)) (Nat.le_refl _) _⟩
                     · first | (simp [intOf]; done) | (simp [intOf]; omega))
        · obtain rfl : m = s.length := by omega
          have hmi3 : ¬ (s.length : Int) < (s.length : Int) := by omega
          have hcl : cl = Sa.comL s b' := List.ext_getElem? (fun r => by
            by_cases hj : r < s.length
            · have hjb : r < b'.length := by rw [HBL.out]; exact hj
              rw [HCV.out r _ (List.getElem?_eq_getElem hjb) (.inr (HSA.out.lt _ (List.getElem_mem hjb))), Sa.comL_at s b' r hjb]
            · rw [List.getElem?_eq_none (by rw [HCL.out]; omega), List.getElem?_eq_none (by rw [Sa.comL_len, HBL.out]; omega)])
          go_wp2
          go_ret2
          subst hcl
          exact ⟨hbw5, .inl ⟨HEQ.out, some ⟨w0.heap.size, 0, none⟩, rfl, hbc.rds⟩⟩
end Go.Proofs.Ytkjajdhempceaaa
