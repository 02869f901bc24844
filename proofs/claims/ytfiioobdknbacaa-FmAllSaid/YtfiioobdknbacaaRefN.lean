/- The walks of the reference's Sort, and of suffix's check and Sort. -/
import Derived.Test.YtfiioobdknbacaaSufF
import Derived.Test.YtfiioobdknbacaaRefM
set_option linter.unusedVariables false
set_option linter.unusedSimpArgs false
namespace Lec
theorem sa_of_merge {s b : List Nat} (h1 : b.length = (List.range s.length).length) (h2 : b.Pairwise (fun v u => s.drop v < s.drop u)) (h3 : ∀ x, x ∈ b ↔ x ∈ List.range s.length) : Sa.IsSA s b :=
  ⟨by simpa using h1, fun v hv => List.mem_range.1 ((h3 v).1 hv), h2⟩
/-- Symbols that may be, as numbers. -/
def symN (L : List Int) : List Nat := L.map Int.toNat
theorem symN_len (L : List Int) : (symN L).length = L.length := by simp [symN]
end Lec
namespace Go.Proofs.Ytfiioobdknbacaa
open Go.RowKit Lec
theorem symN_cells {L : List Int} (h : mayS 512 L = true) : intsV L = natsC (symN L) := by
  unfold intsV natsC symN
  rw [List.map_map]
  apply List.map_congr_left
  intro x hx
  unfold mayS at h
  rw [List.all_eq_true] at h
  have := h x hx
  simp at this
  simp [Int.toNat_of_nonneg this.1]
theorem symN_lt {L : List Int} (h : mayS 512 L = true) : ∀ i, i < (symN L).length → Sa.sy (symN L) i < 512 := by
  intro i hi
  rw [symN_len] at hi
  unfold mayS at h
  rw [List.all_eq_true] at h
  have := h L[i] (List.getElem_mem hi)
  simp at this
  have e : Sa.sy (symN L) i = L[i].toNat := by unfold Sa.sy; rw [Sa.getD_of (v := L[i].toNat)]; unfold symN; rw [List.getElem?_map, List.getElem?_eq_getElem hi]; rfl
  rw [e]; omega

def RefSortPost (w : World) (s : List Nat) (e : Ending) (w' : World) : Prop :=
  ∃ (C : Option Addr) (cc : Nat) (b : List Nat), e = .returned (.slice C s.length cc) ∧ Rds w' C (natsC b) ∧ s.length ≤ cc ∧ (C = none → s.length = 0 ∧ cc = 0) ∧ Sa.IsSA s b ∧ Below w.heap.size w w'

set_option maxRecDepth 100000 in
theorem refSort_any (w : World) (A : Option Addr) (c : Nat) (s : List Nat) (hm : s.length ≤ 1000000) (hr : Rds w A (natsC s)) :
    Calls Try.prog 69 #[.slice A s.length c] w (RefSortPost w s) := by
  have HR := Lib.hid hr
  have hmk := mk_ints s.length (by omega)
  clear hr
  go_enter Try.func69, Try.ntmps69
  go_wp2
  obtain ⟨w4, hw4⟩ : ∃ w4, w4 = w.alloc (.cells (Array.replicate s.length (.int .i64 0)) 3) := ⟨_, rfl⟩
  have hb4 : Blk w4 w.heap.size 3 (natsC (List.replicate s.length 0)) := by rw [hw4]; exact Blk.newL _ _ _ _ _ rfl (by simp [natsC])
  have hbe4 : Below w.heap.size w w4 := by rw [hw4]; exact (Below.refl _ _).alloc (Nat.le_refl _) _
  rw [← hw4]
  clear hw4 hmk
  go_loopw [4] (fun i wx => ∃ (m : Nat) (av : List Nat), i = .int .i64 (m : Int) ∧ m ≤ s.length ∧ Hid (av.length = s.length) ∧ Hid (∀ j, j < m → av[j]? = some j) ∧ Blk wx w.heap.size 3 (natsC av) ∧ Below w.heap.size w wx) (fun i _ => s.length - (intOf i).toNat)
  case atStart => exact ⟨0, _, rfl, by omega, Lib.hid (by simp), Lib.hid (fun j hj => by omega), hb4, hbe4⟩
  case round =>
    clear hb4 hbe4
    obtain ⟨m, av, rfl, hmM, HAL, HAV, hba, hbe⟩ := hrel
    by_cases hm2 : m < s.length
    · have hmi : (m : Int) < (s.length : Int) := by omega
      obtain ⟨y, hy⟩ : ∃ y, av[m]? = some y := ⟨_, List.getElem?_eq_getElem (by rw [HAL.out]; exact hm2)⟩
      have va := hba.cell (natsC_at hy)
      have fa := hba.froz m
      have hb5 := hba.set m (.int .i64 (m : Int))
      rw [← natsC_set] at hb5
      have HB5 := Lib.hid hb5
      clear hy hb5
      go_wp2
      go_roundw
      case rel =>
        refine ⟨m + 1, _, by go_num, by omega, Lib.hid (by rw [List.length_set]; exact HAL.out), Lib.hid (fun j hj => ?_), HB5.out, hbe.setCell (Nat.le_refl _) _⟩
        rw [List.getElem?_set]
        by_cases e : m = j
        · subst e; simp [HAL.out, hm2]
        · rw [if_neg e]; exact HAV.out j (by omega)
      case measure => first | (simp [intOf]; done) | (simp [intOf]; omega)
    · obtain rfl : m = s.length := by omega
      have hmi : ¬ (s.length : Int) < (s.length : Int) := by omega
      have hav : av = List.range s.length := List.ext_getElem? (fun j => by
        by_cases hj : j < s.length
        · rw [HAV.out j hj, List.getElem?_range hj]
        · rw [List.getElem?_eq_none (by rw [HAL.out]; omega), List.getElem?_eq_none (by simp; omega)])
      subst hav
      have hMG := merge_any s hm (List.range s.length).length wr A c (HR.out.ext hbe (Nat.le_refl _)) (some ⟨w.heap.size, 0, none⟩) s.length (List.range s.length) (Nat.le_refl _) hba.rds (by simp) (fun e => by cases e) (fun v hv => List.mem_range.1 hv) List.nodup_range
      rw [List.length_range] at hMG
      have HMG := Lib.hid hMG
      clear hMG
      go_wp2_with fail
      refine HMG.out.mono ?_
      rintro e w5 ⟨C, cc, b, rfl, rb, q1, q2, q3, q4, q5, hb5⟩
      have hbe5 := hbe.trans (hb5.mono hbe.size)
      have HSA := Lib.hid (sa_of_merge q3 q4 q5)
      rw [List.length_range] at q1 q2 ⊢
      have HQ2 := Lib.hid q2
      have HRB := Lib.hid rb
      clear q2 q3 q4 q5 rb HMG
      go_wp2
      go_ret
      exact ⟨C, cc, b, rfl, HRB.out, q1, HQ2.out, HSA.out, hbe5⟩

def checkE (L : List Int) : Int := if mayS 512 L = true then (if L.length ≤ 131072 then 0 else 2) else 1

theorem check_any (w : World) (A : Option Addr) (n c : Nat) (L : List Int) (hn : L.length = n) (hm : n ≤ 1000000000) (hr : Rds w A (intsV L)) :
    Calls Try.prog 95 #[.slice A n c] w fun e w' => e = .returned (.int .i64 (checkE L)) ∧ w = w' := by
  have HR := Lib.hid hr
  have HN := Lib.hid hn
  clear hr hn
  generalize hE : checkE L = E
  have HE := Lib.hid hE
  clear hE
  go_enter Try.func95, Try.ntmps95
  go_wp2
  go_loop [7] (fun i => ∃ m : Nat, i = .int .i64 (m : Int) ∧ m ≤ n ∧ Hid (∀ j x, j < m → L[j]? = some x → 0 ≤ x ∧ x < 512)) (fun i => n - (intOf i).toNat)
  case atStart => exact ⟨0, rfl, by omega, Lib.hid (fun j x hj => by omega)⟩
  case round =>
    obtain ⟨m, rfl, hmn, HS⟩ := hrel
    by_cases h1 : m < n
    · have h1i : (m : Int) < (n : Int) := by omega
      obtain ⟨x, hx⟩ : ∃ x, L[m]? = some x := ⟨_, List.getElem?_eq_getElem (by rw [HN.out]; exact h1)⟩
      obtain ⟨a, rfl, cx⟩ := HR.out m _ (intsV_at hx)
      have HX := Lib.hid hx
      clear hx
      have bad : ¬ (0 ≤ x ∧ x < 512) → E = 1 := fun h => by
        have HB : mayS 512 L = false := by
          unfold mayS; rw [List.all_eq_false]
          exact ⟨x, List.mem_iff_getElem?.2 ⟨m, HX.out⟩, by simpa using h⟩
        rw [← HE.out]; unfold checkE; rw [HB]; rfl
      by_cases hx0 : x < 0
      · have HB := Lib.hid (bad (by omega))
        clear bad
        go_wp2
        go_ret
        exact ⟨by rw [HB.out]; rfl, rfl⟩
      · by_cases hxk : 512 ≤ x
        · have HB := Lib.hid (bad (by omega))
          clear bad
          go_wp2
          go_ret
          exact ⟨by rw [HB.out]; rfl, rfl⟩
        · clear bad
          go_wp2
          go_round
          case rel =>
            refine ⟨m + 1, by go_num, by omega, Lib.hid (fun j y hj hy => ?_)⟩
            by_cases e : j = m
            · subst e; rw [HX.out] at hy; injection hy with hy; omega
            · exact HS.out j y (by omega) hy
          case measure => first | (simp [intOf]; done) | (simp [intOf]; omega)
    · obtain rfl : m = n := by omega
      have h1i : ¬ (m : Int) < (m : Int) := by omega
      have hB : mayS 512 L = true := by
        unfold mayS; rw [List.all_eq_true]
        intro x hx
        obtain ⟨j, hj⟩ := List.mem_iff_getElem?.1 hx
        have := HS.out j x (by have := (List.getElem?_eq_some_iff.1 hj).1; have := HN.out; omega) hj
        simpa using this
      have hE2 := HE.out
      unfold checkE at hE2
      rw [hB, HN.out] at hE2
      clear HE hB
      by_cases hl : m ≤ 131072
      · rw [if_pos rfl, if_pos hl] at hE2
        have HE2 := Lib.hid hE2
        have hli : ¬ (131072 : Int) < (m : Int) := by omega
        clear hE2
        go_wp2
        go_ret
        exact ⟨by rw [← HE2.out]; rfl, rfl⟩
      · rw [if_pos rfl, if_neg hl] at hE2
        have HE2 := Lib.hid hE2
        have hli : (131072 : Int) < (m : Int) := by omega
        clear hE2
        go_wp2
        go_ret
        exact ⟨by rw [← HE2.out]; rfl, rfl⟩

def SortPost (w : World) (s : List Nat) (e : Ending) (w' : World) : Prop :=
  ∃ (A : Option Addr) (b : List Nat), e = .returned (.tuple #[.slice A s.length s.length, .int .i64 0]) ∧ w'.ownsRow w.heap.size 3 1 (.slice A s.length s.length) s.length (natsC b) ∧ Sa.IsSA s b ∧ Below w.heap.size w w'

set_option maxRecDepth 100000 in
theorem Sort_good (w : World) (A : Option Addr) (n c : Nat) (L : List Int) (hn : L.length = n) (hm : n ≤ 131072) (hr : Rds w A (intsV L)) (hA : A = none → n = 0 ∧ c = 0) (hs : mayS 512 L = true) :
    Calls Try.prog 67 #[.slice A n c] w (SortPost w (symN L)) := by
  have hce : checkE L = 0 := by unfold checkE; rw [if_pos hs, if_pos (by omega)]
  have hch := check_any w A n c L hn (by omega) hr
  rw [hce] at hch
  have HCH := Lib.hid hch
  have hcells := symN_cells hs
  have hlen := symN_len L
  rw [hn] at hlen
  rw [hcells] at hr
  have HR := Lib.hid hr
  have HLT := Lib.hid (symN_lt hs)
  clear hch hce hr hs hcells hn
  generalize symN L = s at *
  by_cases h0 : n = 0
  · have h0i : ((n : Int) == 0) = true := by rw [beq_iff_eq]; omega
    have hs0 : s = [] := List.eq_nil_of_length_eq_zero (by omega)
    clear h0 hlen
    go_enter Try.func67, Try.ntmps67
    go_wp2_with fail
    refine HCH.out.mono ?_
    rintro e w1 ⟨rfl, rfl⟩
    go_wp2
    go_ret2
    subst hs0
    exact ⟨none, [], rfl, World.ownsRow_nil _ _ _ _, Sa.IsSA.nil, Below.refl _ _⟩
  · have h0i : ((n : Int) == 0) = false := by rw [beq_eq_false_iff_ne]; omega
    subst hlen
    have hbz := Nat.le_refl w.heap.size
    have HA := Lib.hid hA
    clear hA
    go_enter Try.func67, Try.ntmps67
    go_wp2_with fail
    refine HCH.out.mono ?_
    rintro e w1 ⟨rfl, rfl⟩
    go_wp2_with (at_builtin; refine wp_app rfl _ _ 45 rfl w.heap.size 3 (.int .i64 0) 1 8 Try.underlying45 info_int rfl (by decide) (by decide) (.slice none 0 0) 0 [] rfl (World.ownsRow_nil _ _ _ _) A s.length c (natsC s) rfl HA.out (by simp) HR.out (natsC_one _) (by omega) hbz ?_; intro v' w3 hown' hg'; obtain ⟨A6, c6, rfl, _, _, p5, p6, _⟩ := own_rds hown'; have HO := Lib.hid hown'; have HG := Lib.hid hg'; have HR6 := Lib.hid p6; clear hown' hg' p5 p6)
    have hg := HG.out
    have hb3 : Below w.heap.size w w3 := ⟨hg.os, hg.tape, hg.output, hg.size, fun k hk => hg.block k hk (by simp [Value.ownBlock])⟩
    have hso := sorted_any w3 A6 c6 s 512 HR6.out (own_far HO.out (by decide)) hm (by omega) (by omega) HLT.out
    have HSO := Lib.hid hso
    clear hso hg
    refine HSO.out.mono ?_
    rintro e w4 ⟨g, b, rfl, hb, hgg, hbe, hsa⟩
    go_wp2
    go_ret2
    exact ⟨some ⟨g, 0, none⟩, b, rfl, hb.own s.length w.heap.size (Nat.le_trans hb3.size hgg) (by simp only [maxLen]; omega) (by rw [List.length_map, hsa.len]), hsa, hb3.trans (hbe.mono hb3.size)⟩

theorem Sort_bad (w : World) (A : Option Addr) (n c : Nat) (L : List Int) (hn : L.length = n) (hm : n ≤ 1000000000) (hr : Rds w A (intsV L)) (hs : mayS 512 L = false) :
    Calls Try.prog 67 #[.slice A n c] w fun e w' => e = .returned (.tuple #[.slice none 0 0, .int .i64 1]) ∧ w = w' := by
  have hce : checkE L = 1 := by unfold checkE; rw [hs]; rfl
  have hch := check_any w A n c L hn hm hr
  rw [hce] at hch
  have HCH := Lib.hid hch
  clear hch hce hr hs hn
  go_enter Try.func67, Try.ntmps67
  go_wp2_with fail
  refine HCH.out.mono ?_
  rintro e w1 ⟨rfl, rfl⟩
  go_wp2
  go_ret2
  exact ⟨rfl, rfl⟩
end Go.Proofs.Ytfiioobdknbacaa
