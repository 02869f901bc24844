/- made, wakes of the laws on segments. -/
import Derived.Test.YtjpcfpffbicpnaaAskG
set_option linter.unusedVariables false
set_option linter.unusedSimpArgs false
namespace Go.Proofs.Ytjpcfpffbicpnaa
open Go.RowKit Lec
def MadeG (w : World) (D : List Doc) (e : Ending) (w' : World) : Prop :=
  Below w.heap.size w w' ∧ ((Sg.chkD D ≠ 0 ∧ e = .returned (.tuple #[.pointer none, .int .i64 (Sg.chkD D : Int)])) ∨
    (Sg.chkD D = 0 ∧ ∃ x lo, e = .returned (.tuple #[.pointer (some ⟨x, 0, none⟩), .int .i64 0]) ∧ SegN w' x D lo))
set_option maxRecDepth 100000 in
set_option maxHeartbeats 1000000 in
theorem madeG_any (w : World) (A B C : Option Addr) (c m d n e : Nat) (D : List Doc) (hDl : D.length ≤ 60000) (hDw : weighD D ≤ 60000) (hd : Rds w A (docsC D)) :
    Calls Try.prog 18 #[.agg #[.slice A D.length c, .slice B m d, .slice C n e]] w (MadeG w D) := by
  have hsz := size_weigh D
  have HR := Lib.hid hd
  have HZ : Hid (Sg.sizeD D ≤ 60000) := Lib.hid (by omega)
  clear hd hsz hDw
  go_enter Try.func18, Try.ntmps18
  go_wp2_with fail
  obtain ⟨w0, hw0⟩ : ∃ w0, w0 = w.alloc (.cells #[.slice A D.length c, .slice B m d, .slice C n e] 40) := ⟨_, rfl⟩
  rw [← hw0]
  have HX0 : Hid (Below w.heap.size w w0) := by rw [hw0]; exact (Below.refl _ _).alloc (Nat.le_refl _) _
  have HC0 : Hid (w0.cell? ⟨w.heap.size, 0, none⟩ = some (.slice A D.length c)) := by rw [hw0]; show _ = _; rw [cell_of_row _ _ _ _ _ _ (heap_alloc_new _ _)]; rfl
  have hlt : w.heap.size < w0.heap.size := by rw [hw0]; simp
  clear hw0
  refine (CopyDocs_any w0 A D.length c D rfl (by omega) (HR.out.ext HX0.out (Nat.le_refl _))).mono ?_
  rintro e w1 ⟨v1, rfl, hown, hb1⟩
  obtain ⟨A1, c1, rfl, p1, p2, p3, p4, p5⟩ := own_rds hown
  have HX1 : Hid (Below w.heap.size w w1) := HX0.out.trans (hb1.mono HX0.out.size)
  have HO1 := Lib.hid hown
  have HP4 := Lib.hid p4
  have HC1 := Lib.hid (cell_ext hb1 (Nat.le_refl _) HC0.out)
  have hs1 := hb1.size
  clear p1 p2 p3 p4 p5 hown hb1 HX0 HC0
  go_wp2_with fail
  refine (NewS_any w1 A1 c1 D.length D rfl (by omega) (by have := HZ.out; omega) HP4.out).mono ?_
  rintro e w2 ⟨hb2, hpost⟩
  have HX2 : Hid (Below w.heap.size w w2) := HX1.out.trans (hb2.mono HX1.out.size)
  have HO2 := Lib.hid (own_ext HO1.out hb2 (Nat.le_refl _))
  have HC2 := Lib.hid (cell_ext hb2 (Nat.le_refl _) HC1.out)
  have hs2 := hb2.size
  have HO1b : Hid (∀ k, (Value.slice A1 D.length c1).ownBlock = some k → w0.heap.size ≤ k ∧ k < w1.heap.size) := fun k hk => HO1.out.lt k hk
  have HRT : Hid (∀ w3, Below w.heap.size w w3 → Calls Try.prog 13 #[.slice A D.length c] w3 fun e w' => e = .returned (.int .i64 (Sg.chkD D)) ∧ ∃ q, w3.drewN q = w') := Lib.hid fun w3 h => sDocs_any w3 A c D.length D rfl (by omega) (by have := HZ.out; omega) (HR.out.ext h (Nat.le_refl _))
  clear hb2 HO1 HC1 HP4 HX1
  rcases hpost with ⟨hno, rfl⟩ | ⟨hok, x, rfl, hx⟩
  · have HNO := Lib.hid hno
    go_wp2_with fail
    refine (spoilD_any w2 w0.heap.size _ _ _ (by rw [docsC_len]) (by omega) (by omega) HO2.out).mono ?_
    rintro e w3 ⟨rfl, hg⟩
    have HX3 : Hid (Below w.heap.size w w3) := HX2.out.grown hg HX2.out.size (fun k hk => by have := (HO1b.out k hk).1; omega)
    have hc3 : w3.cell? ⟨w.heap.size, 0, none⟩ = some (.slice A D.length c) := (World.cell?_of_block (hg.block w.heap.size (by omega) (fun e => by have := (HO1b.out _ e.symm).1; omega))).trans HC2.out
    have HT := Lib.hid (HRT.out w3 HX3.out)
    clear hg HO2 HX2 HC2
    obtain ⟨cd, hcd⟩ : ∃ cd, cd = Sg.chkD D := ⟨_, rfl⟩
    rw [← hcd] at HT HNO hno ⊢
    have HCD := Lib.hid hcd
    have hne : ((cd : Int) != 0) = true := by rw [bne_iff_ne]; omega
    have hee : ((cd : Int) != (cd : Int)) = false := by simp
    clear hcd hno
    go_wp2_with (first | (go_at_call 13; refine HT.out.mono ?_; rintro e w4 ⟨rfl, q, rfl⟩) | (go_at_call 23; refine (num8 _ _).mono ?_; rintro e wq ⟨rfl, rfl⟩))
    go_ret2
    exact ⟨HX3.out.trans ((drawn_below _ _).mono HX3.out.size), .inl ⟨by rw [← HCD.out]; exact HNO.out, by rw [← HCD.out]; rfl⟩⟩
  · have HOK := Lib.hid hok
    have HX := Lib.hid hx
    go_wp2_with fail
    refine (spoilD_any w2 w0.heap.size _ _ _ (by rw [docsC_len]) (by omega) (by omega) HO2.out).mono ?_
    rintro e w3 ⟨rfl, hg⟩
    have HX3 : Hid (Below w.heap.size w w3) := HX2.out.grown hg HX2.out.size (fun k hk => by have := (HO1b.out k hk).1; omega)
    have hc3 : w3.cell? ⟨w.heap.size, 0, none⟩ = some (.slice A D.length c) := (World.cell?_of_block (hg.block w.heap.size (by omega) (fun e => by have := (HO1b.out _ e.symm).1; omega))).trans HC2.out
    have HT := Lib.hid (HRT.out w3 HX3.out)
    rw [hok] at HT
    have hx3 := SegN.grown HX.out hg (fun k hk => (HO1b.out k hk).2)
    have HX4 := Lib.hid hx3
    obtain ⟨ix, AN, cN, bp, D9, b9, hk, _, hf, _⟩ := hx3
    have hk0 := hk.cell (o := 0) rfl
    obtain ⟨p, _, _, _, _, _, _, x0, _⟩ := hf.out
    clear hg HO2 HX2 HC2 HX hk hf hok hx
    go_wp2_with (first | (go_at_call 13; refine HT.out.mono ?_; rintro e w4 ⟨rfl, q, rfl⟩) | (go_at_call 23; refine (num8 _ _).mono ?_; rintro e wq ⟨rfl, rfl⟩))
    go_ret2
    exact ⟨HX3.out.trans ((drawn_below _ _).mono HX3.out.size), .inr ⟨HOK.out, x, _, rfl, HX4.out.ext (drawn_below w3 q) (Nat.le_refl _)⟩⟩
theorem xx_text : Sg.searchH [⟨⟨#[97]⟩, ⟨#[120, 120]⟩⟩] ⟨#[120]⟩ = [(⟨#[97]⟩, 0), (⟨#[97]⟩, 1)] := by decide +kernel
theorem xx_chk : Sg.chkD [⟨⟨#[97]⟩, ⟨#[120, 120]⟩⟩] = 0 := by decide +kernel
set_option maxRecDepth 100000 in
theorem wakesG (w : World) : Calls Try.prog 19 #[] w fun e w' => e = .returned (.bool true) ∧ Below w.heap.size w w' := by
  go_enter Try.func19, Try.ntmps19
  go_wp2_with fail
  have HX0 : Hid (Below w.heap.size w (w.alloc (.cells #[.string ⟨#[97]⟩, .string ⟨#[120, 120]⟩] 52))) := (Below.refl _ _).alloc (Nat.le_refl _) _
  refine (NewS_any _ _ 1 1 [⟨⟨#[97]⟩, ⟨#[120, 120]⟩⟩] rfl (by decide) (by decide +kernel) (show Rds _ _ (docsC [⟨⟨#[97]⟩, ⟨#[120, 120]⟩⟩]) from rds_litN _ _ _)).mono ?_
  rintro e w1 ⟨hb, ⟨hno, _⟩ | ⟨hok, x, rfl, hx⟩⟩
  · exact absurd xx_chk hno
  have HX1 : Hid (Below w.heap.size w w1) := HX0.out.trans (hb.mono HX0.out.size)
  have HS := Lib.hid (Search_any w1 x _ _ hok hx ⟨#[120]⟩ (by decide))
  unfold SearchPost at HS
  rw [xx_text, show Sg.asksP ⟨#[120]⟩ = 0 from by decide +kernel] at HS
  clear hb hok hx
  go_wp2_with (go_at_call 23; refine (num8 _ _).mono ?_; rintro e wq ⟨rfl, rfl⟩)
  refine HS.out.mono ?_
  rintro e w2 ⟨v, rfl, hown, hb2⟩
  obtain ⟨A2, c2, rfl, _, _, _, r4, _⟩ := own_rds hown
  have HX2 : Hid (Below w.heap.size w w2) := HX1.out.trans (hb2.mono HX1.out.size)
  have HB3 : Hid (Below w2.heap.size w2 (w2.alloc (.cells #[.string ⟨#[97]⟩, .int .i64 0, .string ⟨#[97]⟩, .int .i64 1] 56))) := (Below.refl _ _).alloc (Nat.le_refl _) _
  have HE := Lib.hid (EqHits_any (w2.alloc (.cells #[.string ⟨#[97]⟩, .int .i64 0, .string ⟨#[97]⟩, .int .i64 1] 56)) A2 2 c2 [(⟨#[97]⟩, 0), (⟨#[97]⟩, 1)] rfl (r4.ext HB3.out (Nat.le_refl _)) (some ⟨w2.heap.size, 0, none⟩) 2 2 [(⟨#[97]⟩, 0), (⟨#[97]⟩, 1)] rfl (show Rds _ _ (hitsC [(⟨#[97]⟩, 0), (⟨#[97]⟩, 1)]) from rds_litN _ _ _) (by decide))
  rw [decide_eq_true rfl] at HE
  clear hown hb2 r4
  go_wp2_with (first | (go_at_call 23; refine (num8 _ _).mono ?_; rintro e wq ⟨rfl, rfl⟩) | (go_at_call 24; refine HE.out.mono ?_; rintro e wq ⟨rfl, q, rfl⟩))
  go_ret
  exact ⟨rfl, (HX2.out.trans (HB3.out.mono HX2.out.size)).trans ((drawn_below _ q).mono (HX2.out.trans (HB3.out.mono HX2.out.size)).size)⟩
end Go.Proofs.Ytjpcfpffbicpnaa
