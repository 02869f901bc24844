/- The walks of find, Select, Select0. -/
import Derived.Test.YtfiioobdknbacaaFind
set_option linter.unusedVariables false
set_option linter.unusedSimpArgs false
namespace Lec
/-- The place of the k-th b. -/
theorem nth_place (b : Bool) (bs : List Bool) (k : Nat) (h : k < cntB b bs bs.length) : ∃ r, r < bs.length ∧ cntB b bs r = k ∧ cntB b bs (r + 1) = k + 1 ∧ bs[r]? = some b := by
  unfold cntB at *
  rw [List.take_length] at h
  induction bs generalizing k with
  | nil => simp at h
  | cons a l ih =>
    rw [List.count_cons] at h
    by_cases ha : a = b
    · subst ha
      simp only [beq_self_eq_true, if_true] at h
      cases k with
      | zero => exact ⟨0, by simp, by simp, by simp, rfl⟩
      | succ k =>
        obtain ⟨r, h1, h2, h3, h4⟩ := ih k (by omega)
        refine ⟨r + 1, by simp; omega, ?_, ?_, by simpa using h4⟩
        · rw [List.take_succ_cons, List.count_cons_self, h2]
        · rw [List.take_succ_cons, List.count_cons_self, h3]
    · have hab : (a == b) = false := by rw [beq_eq_false_iff_ne]; exact ha
      rw [hab] at h
      simp only [Bool.false_eq_true, if_false, Nat.add_zero] at h
      obtain ⟨r, h1, h2, h3, h4⟩ := ih k h
      refine ⟨r + 1, by simp; omega, ?_, ?_, by simpa using h4⟩
      · rw [List.take_succ_cons, List.count_cons_of_ne ha, h2]
      · rw [List.take_succ_cons, List.count_cons_of_ne ha, h3]
end Lec
namespace Go.Proofs.Ytfiioobdknbacaa
open Go.RowKit Lec

set_option maxRecDepth 100000 in
theorem findR_in (w : World) (p q : Nat) (bs : List Bool) (hv : Vec w p bs) (hm : bs.length ≤ 1048576) (r k : Nat) (hr : r < bs.length) (h1 : cntB true bs r = k) (h2 : cntB true bs (r + 1) = k + 1) (whole : Nat) (hk : k < whole)
    (hc : ∀ w', Below w.heap.size w w' → ∀ j, j < bs.length → Calls Try.prog 110 #[.pointer (some ⟨p, 0, none⟩), .int .i64 ((j : Int) + 1)] w' fun e w'' => e = .returned (.int .i64 (cntB true bs (j + 1) : Int)) ∧ ∃ q', w'.drewN q' = w'') :
    Calls Try.prog 126 #[.pointer (some ⟨p, 0, none⟩), .int .i64 (k : Int), .int .i64 (whole : Int), Value.func (.func 110) #[.pointer (some ⟨p, 0, none⟩)] #[]] w fun e w' => e = .returned (.tuple #[.int .i64 (r : Int), .int .i64 0]) ∧ Below w.heap.size w w' := by
  have HC := Lib.hid hc
  have HV := Lib.hid hv
  have hki0 : ¬ (k : Int) < 0 := by omega
  have hki1 : ¬ (whole : Int) ≤ (k : Int) := by omega
  have HCNT : Hid (∀ j, j < bs.length → decide ((k : Int) < (cntB true bs (j + 1) : Int)) = decide (r ≤ j)) := by
    intro j hj
    by_cases hrj : r ≤ j
    · have := cntB_mono true bs (show r + 1 ≤ j + 1 by omega)
      rw [decide_eq_true hrj, decide_eq_true (by omega)]
    · have := cntB_mono true bs (show j + 1 ≤ r by omega)
      rw [decide_eq_false hrj, decide_eq_false (by omega)]
  clear hc hv h1 h2
  go_enter Try.func126, Try.ntmps126
  obtain ⟨w0, hw0⟩ : ∃ w0, w0 = (w.alloc (.cells #[.int .i64 (k : Int)] 3)).alloc (.cells #[Value.func (.func 110) #[.pointer (some ⟨p, 0, none⟩)] #[]] 98) := ⟨_, rfl⟩
  have hx : Below w.heap.size w w0 := by rw [hw0]; exact ((Below.refl _ _).alloc (Nat.le_refl _) _).alloc (by simp) _
  have hcell0 : w0.cell? ⟨w.heap.size, 0, none⟩ = some (.int .i64 (k : Int)) := by
    rw [hw0]
    have h : (w.alloc (.cells #[.int .i64 (k : Int)] 3)).cell? ⟨w.heap.size, 0, none⟩ = some (.int .i64 (k : Int)) := by rw [cell_of_row _ _ _ _ _ _ (heap_alloc_new _ _)]; rfl
    exact cell_ext (B := w.heap.size + 1) ((Below.refl _ _).alloc (by simp) _) (by simp) h
  have hcell1 : w0.cell? ⟨w.heap.size + 1, 0, none⟩ = some (Value.func (.func 110) #[.pointer (some ⟨p, 0, none⟩)] #[]) := by
    rw [hw0]
    have h := heap_alloc_new (w.alloc (.cells #[.int .i64 (k : Int)] 3)) (.cells #[Value.func (.func 110) #[.pointer (some ⟨p, 0, none⟩)] #[]] 98 (0, 0))
    rw [show w.heap.size + 1 = (w.alloc (.cells #[.int .i64 (k : Int)] 3)).heap.size by simp, cell_of_row _ _ _ _ _ _ h]; rfl
  have HX := Lib.hid hx
  have HC0 := Lib.hid hcell0
  have HC1 := Lib.hid hcell1
  have hv0 := HV.out.ext hx (Nat.le_refl _)
  have HV0 := Lib.hid hv0
  obtain ⟨A, c, B, d, _, hn, _, _, _⟩ := hv0.out
  clear hx hcell0 hcell1 hv0 HV
  have HW0 := Lib.hid hw0
  go_upto_region 3 with (fail)
  rw [← HW0.out]
  clear hw0 HW0
  go_wp2_with fail
  refine (Search_any w0 bs.length r _ _ (by omega) (by omega) (fun j q' hj => ?_)).mono ?_
  · have h := clo_rank (w0.drewN q') (w.heap.size + 1) w.heap.size p k bs hm j hj HC1.out HC0.out (fun q'' => HC.out _ (HX.out.trans (by rw [World.drewN_drewN]; exact (drawn_below w0 _).mono HX.out.size)) j hj)
    rw [HCNT.out j hj] at h
    refine h.mono ?_
    rintro e w' ⟨rfl, q3, rfl⟩
    exact ⟨rfl, q' + q3, by rw [World.drewN_drewN]⟩
  · rintro e w' ⟨rfl, q1, rfl⟩
    go_wp2
    go_ret2
    exact ⟨rfl, HX.out.trans ((drawn_below w0 q1).mono HX.out.size)⟩

set_option maxRecDepth 100000 in
theorem findN_in (w : World) (p q : Nat) (bs : List Bool) (hv : Vec w p bs) (hm : bs.length ≤ 1048576) (r k : Nat) (hr : r < bs.length) (h1 : cntB false bs r = k) (h2 : cntB false bs (r + 1) = k + 1) (whole : Nat) (hk : k < whole)
    (hc : ∀ w', Below w.heap.size w w' → ∀ j, j < bs.length → Calls Try.prog 127 #[.int .i64 ((j : Int) + 1), .pointer (some ⟨q, 0, none⟩)] w' fun e w'' => e = .returned (.int .i64 (cntB false bs (j + 1) : Int)) ∧ ∃ q', w'.drewN q' = w'') :
    Calls Try.prog 126 #[.pointer (some ⟨p, 0, none⟩), .int .i64 (k : Int), .int .i64 (whole : Int), Value.func (.func 127) #[] #[.pointer (some ⟨q, 0, none⟩)]] w fun e w' => e = .returned (.tuple #[.int .i64 (r : Int), .int .i64 0]) ∧ Below w.heap.size w w' := by
  have HC := Lib.hid hc
  have HV := Lib.hid hv
  have hki0 : ¬ (k : Int) < 0 := by omega
  have hki1 : ¬ (whole : Int) ≤ (k : Int) := by omega
  have HCNT : Hid (∀ j, j < bs.length → decide ((k : Int) < (cntB false bs (j + 1) : Int)) = decide (r ≤ j)) := by
    intro j hj
    by_cases hrj : r ≤ j
    · have := cntB_mono false bs (show r + 1 ≤ j + 1 by omega)
      rw [decide_eq_true hrj, decide_eq_true (by omega)]
    · have := cntB_mono false bs (show j + 1 ≤ r by omega)
      rw [decide_eq_false hrj, decide_eq_false (by omega)]
  clear hc hv h1 h2
  go_enter Try.func126, Try.ntmps126
  obtain ⟨w0, hw0⟩ : ∃ w0, w0 = (w.alloc (.cells #[.int .i64 (k : Int)] 3)).alloc (.cells #[Value.func (.func 127) #[] #[.pointer (some ⟨q, 0, none⟩)]] 98) := ⟨_, rfl⟩
  have hx : Below w.heap.size w w0 := by rw [hw0]; exact ((Below.refl _ _).alloc (Nat.le_refl _) _).alloc (by simp) _
  have hcell0 : w0.cell? ⟨w.heap.size, 0, none⟩ = some (.int .i64 (k : Int)) := by
    rw [hw0]
    have h : (w.alloc (.cells #[.int .i64 (k : Int)] 3)).cell? ⟨w.heap.size, 0, none⟩ = some (.int .i64 (k : Int)) := by rw [cell_of_row _ _ _ _ _ _ (heap_alloc_new _ _)]; rfl
    exact cell_ext (B := w.heap.size + 1) ((Below.refl _ _).alloc (by simp) _) (by simp) h
  have hcell1 : w0.cell? ⟨w.heap.size + 1, 0, none⟩ = some (Value.func (.func 127) #[] #[.pointer (some ⟨q, 0, none⟩)]) := by
    rw [hw0]
    have h := heap_alloc_new (w.alloc (.cells #[.int .i64 (k : Int)] 3)) (.cells #[Value.func (.func 127) #[] #[.pointer (some ⟨q, 0, none⟩)]] 98 (0, 0))
    rw [show w.heap.size + 1 = (w.alloc (.cells #[.int .i64 (k : Int)] 3)).heap.size by simp, cell_of_row _ _ _ _ _ _ h]; rfl
  have HX := Lib.hid hx
  have HC0 := Lib.hid hcell0
  have HC1 := Lib.hid hcell1
  have hv0 := HV.out.ext hx (Nat.le_refl _)
  have HV0 := Lib.hid hv0
  obtain ⟨A, c, B, d, _, hn, _, _, _⟩ := hv0.out
  clear hx hcell0 hcell1 hv0 HV
  have HW0 := Lib.hid hw0
  go_upto_region 3 with (fail)
  rw [← HW0.out]
  clear hw0 HW0
  go_wp2_with fail
  refine (Search_any w0 bs.length r _ _ (by omega) (by omega) (fun j q' hj => ?_)).mono ?_
  · have h := clo_nought (w0.drewN q') (w.heap.size + 1) w.heap.size q k bs hm j hj HC1.out HC0.out (fun q'' => HC.out _ (HX.out.trans (by rw [World.drewN_drewN]; exact (drawn_below w0 _).mono HX.out.size)) j hj)
    rw [HCNT.out j hj] at h
    refine h.mono ?_
    rintro e w' ⟨rfl, q3, rfl⟩
    exact ⟨rfl, q' + q3, by rw [World.drewN_drewN]⟩
  · rintro e w' ⟨rfl, q1, rfl⟩
    go_wp2
    go_ret2
    exact ⟨rfl, HX.out.trans ((drawn_below w0 q1).mono HX.out.size)⟩

theorem find_out (w : World) (p : Nat) (k : Int) (whole : Nat) (fn : Fn) (fs cs : Array Value) (hk : k < 0 ∨ (whole : Int) ≤ k) :
    Calls Try.prog 126 #[.pointer (some ⟨p, 0, none⟩), .int .i64 k, .int .i64 (whole : Int), .func fn fs cs] w fun e w' => e = .returned (.tuple #[.int .i64 0, .int .i64 3]) ∧ Below w.heap.size w w' := by
  by_cases h0 : k < 0
  · clear hk
    go_enter Try.func126, Try.ntmps126
    go_wp2
    go_ret2
    exact ⟨rfl, ((Below.refl _ _).alloc (Nat.le_refl _) _).alloc (by simp) _⟩
  · have h1 : (whole : Int) ≤ k := by omega
    clear hk
    go_enter Try.func126, Try.ntmps126
    go_wp2
    go_ret2
    exact ⟨rfl, ((Below.refl _ _).alloc (Nat.le_refl _) _).alloc (by simp) _⟩

theorem nought_any (w : World) (b p : Nat) (bs : List Bool) (hb : w.cell? ⟨b, 0, none⟩ = some (.pointer (some ⟨p, 0, none⟩))) (hv : Vec w p bs) (hm : bs.length ≤ 1048576) (i : Nat) (hi : i ≤ bs.length) :
    Calls Try.prog 127 #[.int .i64 (i : Int), .pointer (some ⟨b, 0, none⟩)] w fun e w' => e = .returned (.int .i64 (cntB false bs i : Int)) ∧ ∃ q, w.drewN q = w' := by
  have HR := Lib.hid (rank_any w p bs hv hm i hi)
  have hle := rank_le bs i
  have HE := Lib.hid (cntB_false bs i hi)
  clear hv
  generalize rankB bs i = r at *
  generalize cntB false bs i = x at *
  go_enter Try.func127, Try.ntmps127
  go_wp2_with fail
  refine HR.out.mono ?_
  rintro e w' ⟨rfl, q, rfl⟩
  go_wp2
  go_ret
  exact ⟨by rw [HE.out]; go_num, q, rfl⟩

theorem Select_in (w : World) (p : Nat) (bs : List Bool) (hv : Vec w p bs) (hm : bs.length ≤ 1048576) (r k : Nat) (hr : r < bs.length) (h1 : cntB true bs r = k) (h2 : cntB true bs (r + 1) = k + 1) :
    Calls Try.prog 102 #[.pointer (some ⟨p, 0, none⟩), .int .i64 (k : Int)] w fun e w' => e = .returned (.tuple #[.int .i64 (r : Int), .int .i64 0]) ∧ Below w.heap.size w w' := by
  have HR := Lib.hid (rank_any w p bs hv hm bs.length (Nat.le_refl _))
  have HF : Hid (∀ q, Calls Try.prog 126 #[.pointer (some ⟨p, 0, none⟩), .int .i64 (k : Int), .int .i64 (rankB bs bs.length : Int), .func (.func 110) #[.pointer (some ⟨p, 0, none⟩)] #[]] (w.drewN q) fun e w' => e = .returned (.tuple #[.int .i64 (r : Int), .int .i64 0]) ∧ Below (w.drewN q).heap.size (w.drewN q) w') := by
    intro q
    exact findR_in (w.drewN q) p p bs (hv.drew q) hm r k hr h1 h2 _ (by have := cntB_mono true bs (show r + 1 ≤ bs.length by omega); have := cntB_true bs bs.length; omega) (fun w' hb j hj => rank_any w' p bs ((hv.drew q).ext hb (Nat.le_refl _)) hm (j + 1) (by omega))
  obtain ⟨A, c, B, d, _, hn, _, _, _⟩ := hv.out
  clear hv h1 h2
  generalize rankB bs bs.length = x at *
  go_enter Try.func102, Try.ntmps102
  go_wp2_with fail
  refine HR.out.mono ?_
  rintro e w' ⟨rfl, q, rfl⟩
  go_wp2_with fail
  refine (HF.out q).mono ?_
  rintro e w' ⟨rfl, hb⟩
  go_wp2
  go_ret2
  exact ⟨rfl, (drawn_below w q).trans (hb.mono (drawn_below w q).size)⟩
theorem Select_out (w : World) (p : Nat) (bs : List Bool) (hv : Vec w p bs) (hm : bs.length ≤ 1048576) (k : Int) (hk : k < 0 ∨ (cntB true bs bs.length : Int) ≤ k) :
    Calls Try.prog 102 #[.pointer (some ⟨p, 0, none⟩), .int .i64 k] w fun e w' => e = .returned (.tuple #[.int .i64 0, .int .i64 3]) ∧ Below w.heap.size w w' := by
  have HR := Lib.hid (rank_any w p bs hv hm bs.length (Nat.le_refl _))
  have HF : Hid (∀ q, Calls Try.prog 126 #[.pointer (some ⟨p, 0, none⟩), .int .i64 k, .int .i64 (rankB bs bs.length : Int), .func (.func 110) #[.pointer (some ⟨p, 0, none⟩)] #[]] (w.drewN q) fun e w' => e = .returned (.tuple #[.int .i64 0, .int .i64 3]) ∧ Below (w.drewN q).heap.size (w.drewN q) w') := by
    intro q
    exact find_out (w.drewN q) p k _ _ _ _ hk
  obtain ⟨A, c, B, d, _, hn, _, _, _⟩ := hv.out
  clear hv hk
  generalize rankB bs bs.length = x at *
  go_enter Try.func102, Try.ntmps102
  go_wp2_with fail
  refine HR.out.mono ?_
  rintro e w' ⟨rfl, q, rfl⟩
  go_wp2_with fail
  refine (HF.out q).mono ?_
  rintro e w' ⟨rfl, hb⟩
  go_wp2
  go_ret2
  exact ⟨rfl, (drawn_below w q).trans (hb.mono (drawn_below w q).size)⟩

set_option maxRecDepth 100000 in
theorem Select0_in (w : World) (p : Nat) (bs : List Bool) (hv : Vec w p bs) (hm : bs.length ≤ 1048576) (r k : Nat) (hr : r < bs.length) (h1 : cntB false bs r = k) (h2 : cntB false bs (r + 1) = k + 1) :
    Calls Try.prog 103 #[.pointer (some ⟨p, 0, none⟩), .int .i64 (k : Int)] w fun e w' => e = .returned (.tuple #[.int .i64 (r : Int), .int .i64 0]) ∧ Below w.heap.size w w' := by
  obtain ⟨w0, hw0⟩ : ∃ w0, w0 = w.alloc (.cells #[.pointer (some ⟨p, 0, none⟩)] 76) := ⟨_, rfl⟩
  have hx : Below w.heap.size w w0 := by rw [hw0]; exact (Below.refl _ _).alloc (Nat.le_refl _) _
  have hcell : w0.cell? ⟨w.heap.size, 0, none⟩ = some (.pointer (some ⟨p, 0, none⟩)) := by rw [hw0, cell_of_row _ _ _ _ _ _ (heap_alloc_new _ _)]; rfl
  have hv0 := hv.ext hx (Nat.le_refl _)
  have HR : Hid (∀ w', Ext w0 w' → Calls Try.prog 127 #[.int .i64 (bs.length : Int), .pointer (some ⟨w.heap.size, 0, none⟩)] w' fun e w'' => e = .returned (.int .i64 (cntB false bs bs.length : Int)) ∧ ∃ q, w'.drewN q = w'') := fun w' h => nought_any w' _ p bs (h.cell hcell) (hv0.ext h (Nat.le_refl _)) hm _ (Nat.le_refl _)
  have HF : Hid (∀ w', Ext w0 w' → Calls Try.prog 126 #[.pointer (some ⟨p, 0, none⟩), .int .i64 (k : Int), .int .i64 (cntB false bs bs.length : Int), .func (.func 127) #[] #[.pointer (some ⟨w.heap.size, 0, none⟩)]] w' fun e w'' => e = .returned (.tuple #[.int .i64 (r : Int), .int .i64 0]) ∧ Below w'.heap.size w' w'') := by
    intro w' h
    have hv1 := hv0.ext h (Nat.le_refl _)
    have hc1 := h.cell hcell
    exact findN_in w' p w.heap.size bs hv1 hm r k hr h1 h2 _ (by have := cntB_mono false bs (show r + 1 ≤ bs.length by omega); omega) (fun w'' hb j hj => nought_any w'' _ p bs (cell_ext hb (Nat.le_refl _) hc1) (hv1.ext hb (Nat.le_refl _)) hm (j + 1) (by omega))
  obtain ⟨A, c, B, d, _, hn, _, _, _⟩ := hv0.out
  have HQ0 : Hid (∀ w', Ext w0 w' → w'.cell? ⟨w.heap.size, 0, none⟩ = some (.pointer (some ⟨p, 0, none⟩))) := fun w' h => h.cell hcell
  have HQ1 : Hid (∀ w', Ext w0 w' → w'.cell? ⟨p, 1, none⟩ = some (.int .i64 (bs.length : Int))) := fun w' h => h.cell hn
  have HX := Lib.hid hx
  have HW0 := Lib.hid hw0
  clear hv hv0 hx hcell hn hw0 h1 h2
  generalize cntB false bs bs.length = x at *
  go_enter Try.func103, Try.ntmps103
  go_upto_region 2 with (fail)
  rw [← HW0.out]
  clear HW0
  refine wp_region_cls (Ext w0) (by kernel_rfl) (by kernel_rfl) (Ext.drawn _) ?_
  repeat (go_big_quiet_step (first
    | (intro _; rfl)
    | (intro hC; (first | rw [HQ0.out _ hC] | rw [HQ1.out _ hC]); exact ⟨rfl, rfl⟩)
    | (intro hC; go_at_call 127; with_reducible exact Calls.cls_drawn hC (HR.out _ hC))
    | (intro hC; go_at_call 126; with_reducible exact Calls.cls hC (HF.out _ hC))))
  refine wpQuiet_nil ?_
  intro w2 hC2
  go_wp2
  go_ret2
  exact ⟨rfl, HX.out.trans (hC2.below.mono HX.out.size)⟩
set_option maxRecDepth 100000 in
theorem Select0_out (w : World) (p : Nat) (bs : List Bool) (hv : Vec w p bs) (hm : bs.length ≤ 1048576) (k : Int) (hk : k < 0 ∨ (cntB false bs bs.length : Int) ≤ k) :
    Calls Try.prog 103 #[.pointer (some ⟨p, 0, none⟩), .int .i64 k] w fun e w' => e = .returned (.tuple #[.int .i64 0, .int .i64 3]) ∧ Below w.heap.size w w' := by
  obtain ⟨w0, hw0⟩ : ∃ w0, w0 = w.alloc (.cells #[.pointer (some ⟨p, 0, none⟩)] 76) := ⟨_, rfl⟩
  have hx : Below w.heap.size w w0 := by rw [hw0]; exact (Below.refl _ _).alloc (Nat.le_refl _) _
  have hcell : w0.cell? ⟨w.heap.size, 0, none⟩ = some (.pointer (some ⟨p, 0, none⟩)) := by rw [hw0, cell_of_row _ _ _ _ _ _ (heap_alloc_new _ _)]; rfl
  have hv0 := hv.ext hx (Nat.le_refl _)
  have HR : Hid (∀ w', Ext w0 w' → Calls Try.prog 127 #[.int .i64 (bs.length : Int), .pointer (some ⟨w.heap.size, 0, none⟩)] w' fun e w'' => e = .returned (.int .i64 (cntB false bs bs.length : Int)) ∧ ∃ q, w'.drewN q = w'') := fun w' h => nought_any w' _ p bs (h.cell hcell) (hv0.ext h (Nat.le_refl _)) hm _ (Nat.le_refl _)
  have HF : Hid (∀ w', Ext w0 w' → Calls Try.prog 126 #[.pointer (some ⟨p, 0, none⟩), .int .i64 k, .int .i64 (cntB false bs bs.length : Int), .func (.func 127) #[] #[.pointer (some ⟨w.heap.size, 0, none⟩)]] w' fun e w'' => e = .returned (.tuple #[.int .i64 0, .int .i64 3]) ∧ Below w'.heap.size w' w'') := by
    intro w' h
    have hv1 := hv0.ext h (Nat.le_refl _)
    have hc1 := h.cell hcell
    exact find_out w' p k _ _ _ _ hk
  obtain ⟨A, c, B, d, _, hn, _, _, _⟩ := hv0.out
  have HQ0 : Hid (∀ w', Ext w0 w' → w'.cell? ⟨w.heap.size, 0, none⟩ = some (.pointer (some ⟨p, 0, none⟩))) := fun w' h => h.cell hcell
  have HQ1 : Hid (∀ w', Ext w0 w' → w'.cell? ⟨p, 1, none⟩ = some (.int .i64 (bs.length : Int))) := fun w' h => h.cell hn
  have HX := Lib.hid hx
  have HW0 := Lib.hid hw0
  clear hv hv0 hx hcell hn hw0 hk
  generalize cntB false bs bs.length = x at *
  go_enter Try.func103, Try.ntmps103
  go_upto_region 2 with (fail)
  rw [← HW0.out]
  clear HW0
  refine wp_region_cls (Ext w0) (by kernel_rfl) (by kernel_rfl) (Ext.drawn _) ?_
  repeat (go_big_quiet_step (first
    | (intro _; rfl)
    | (intro hC; (first | rw [HQ0.out _ hC] | rw [HQ1.out _ hC]); exact ⟨rfl, rfl⟩)
    | (intro hC; go_at_call 127; with_reducible exact Calls.cls_drawn hC (HR.out _ hC))
    | (intro hC; go_at_call 126; with_reducible exact Calls.cls hC (HF.out _ hC))))
  refine wpQuiet_nil ?_
  intro w2 hC2
  go_wp2
  go_ret2
  exact ⟨rfl, HX.out.trans (hC2.below.mono HX.out.size)⟩
end Go.Proofs.Ytfiioobdknbacaa
