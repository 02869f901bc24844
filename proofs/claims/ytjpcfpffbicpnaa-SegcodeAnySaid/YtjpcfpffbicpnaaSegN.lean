/- The walk of segment.New. -/
import Derived.Test.YtjpcfpffbicpnaaPackSeg
import Derived.Test.YtjpcfpffbicpnaaSegH
import Derived.Test.YtjpcfpffbicpnaaFmB
import Derived.Test.YtjpcfpffbicpnaaBndNew
import Derived.Deep.RegionLaw
set_option linter.unusedVariables false
set_option linter.unusedSimpArgs false
namespace Go.Proofs.Ytjpcfpffbicpnaa
open Go.RowKit Lec
/-- While documents are gone through: symbols, lengths, names of those gone through, and how much text. -/
structure NL (w0 wr : World) (x : Nat) (vl vs vn vb : Value) (L : List Nat) (S : List Int) (N : List ByteArray) (z : Nat) : Prop where
  blk : Blk wr x 64 [.pointer none, vb, .pointer none, .int .i64 (z : Int)]
  l : wr.ownsRow (x + 1) 3 1 vl L.length (natsC L)
  s : wr.ownsRow (x + 1) 3 1 vs S.length (intsI S)
  n : wr.ownsRow (x + 1) 9 1 vn N.length (N.map Value.string)
  ap : ∀ k, vl.ownBlock = some k → vs.ownBlock ≠ some k
  bel : Below w0.heap.size w0 wr
  x0 : w0.heap.size ≤ x
section
variable {w0 wr wy : World} {x : Nat} {vl vs vn vb : Value} {L : List Nat} {S : List Int} {N : List ByteArray} {z : Nat}
theorem NL.ext (h : NL w0 wr x vl vs vn vb L S N z) (hb : Below wr.heap.size wr wy) : NL w0 wy x vl vs vn vb L S N z :=
  ⟨h.blk.ext hb (Nat.le_refl _), own_ext h.l hb (Nat.le_refl _), own_ext h.s hb (Nat.le_refl _), own_ext h.n hb (Nat.le_refl _), h.ap, h.bel.trans (hb.mono h.bel.size), h.x0⟩
theorem NL.growL (h : NL w0 wr x vl vs vn vb L S N z) {vl' : Value} {M : List Nat} (hown : wy.ownsRow (x + 1) 3 1 vl' (L.length + M.length) (natsC L ++ natsC M)) (hg : wr.grownBy wy vl.ownBlock)
    (hat : vl'.ownBlock = vl.ownBlock ∨ vl'.ownBlock = some wr.heap.size) : NL w0 wy x vl' vs vn vb (L ++ M) S N z := by
  have hx0 := h.x0
  refine ⟨h.blk.grown hg ?_, ?_, own_grown h.s hg (fun k hk e => h.ap k e hk), own_grown h.n hg (own_apart h.n h.l (by decide)), ?_, h.bel.grown hg h.bel.size (fun k hk => ?_), h.x0⟩
  · intro e; have := (h.l.lt _ e).1; omega
  · rw [List.length_append]; unfold natsC at hown ⊢; rw [List.map_append]; exact hown
  · intro k hk e
    rcases hat with ha | ha
    · exact h.ap k (ha ▸ hk) e
    · rw [ha] at hk
      injection hk with hk
      have := (h.s.lt _ e).2
      omega
  · have := (h.l.lt _ hk).1; omega
theorem NL.growS (h : NL w0 wr x vl vs vn vb L S N z) {vs' : Value} {u : Int} (hown : wy.ownsRow (x + 1) 3 1 vs' (S.length + 1) (intsI S ++ [.int .i64 u])) (hg : wr.grownBy wy vs.ownBlock)
    (hat : vs'.ownBlock = vs.ownBlock ∨ vs'.ownBlock = some wr.heap.size) : NL w0 wy x vl vs' vn vb L (S ++ [u]) N z := by
  have hx0 := h.x0
  refine ⟨h.blk.grown hg ?_, own_grown h.l hg (fun k hk e => h.ap k hk e), ?_, own_grown h.n hg (own_apart h.n h.s (by decide)), ?_, h.bel.grown hg h.bel.size (fun k hk => ?_), h.x0⟩
  · intro e; have := (h.s.lt _ e).1; omega
  · rw [List.length_append]; unfold intsI at hown ⊢; rw [List.map_append]; exact hown
  · intro k hk e
    rcases hat with ha | ha
    · exact h.ap k hk (ha ▸ e)
    · rw [ha] at e
      injection e with e
      have := (h.l.lt _ hk).2
      omega
  · have := (h.s.lt _ hk).1; omega
theorem NL.growN (h : NL w0 wr x vl vs vn vb L S N z) {vn' : Value} {u : ByteArray} (hown : wy.ownsRow (x + 1) 9 1 vn' (N.length + 1) (N.map Value.string ++ [.string u])) (hg : wr.grownBy wy vn.ownBlock) :
    NL w0 wy x vl vs vn' vb L S (N ++ [u]) z := by
  have hx0 := h.x0
  refine ⟨h.blk.grown hg ?_, own_grown h.l hg (own_apart h.l h.n (by decide)), own_grown h.s hg (own_apart h.s h.n (by decide)), ?_, h.ap, h.bel.grown hg h.bel.size (fun k hk => ?_), h.x0⟩
  · intro e; have := (h.n.lt _ e).1; omega
  · rw [List.length_append, List.map_append]; exact hown
  · have := (h.n.lt _ hk).1; omega
theorem NL.stN (h : NL w0 wr x vl vs vn vb L S N z) : NL w0 (wr.setCell ⟨x, 1, none⟩ vn) x vl vs vn vn L S N z :=
  ⟨h.blk.set 1 vn, ownsRow_setCell_other h.l (fun e => by have := (h.l.lt _ e).1; dsimp only at this; omega) _, ownsRow_setCell_other h.s (fun e => by have := (h.s.lt _ e).1; dsimp only at this; omega) _,
    ownsRow_setCell_other h.n (fun e => by have := (h.n.lt _ e).1; dsimp only at this; omega) _, h.ap, h.bel.setCell h.x0 _, h.x0⟩
theorem NL.stZ (h : NL w0 wr x vl vs vn vb L S N z) (z' : Nat) : NL w0 (wr.setCell ⟨x, 3, none⟩ (.int .i64 (z' : Int))) x vl vs vn vb L S N z' :=
  ⟨h.blk.set 3 _, ownsRow_setCell_other h.l (fun e => by have := (h.l.lt _ e).1; dsimp only at this; omega) _, ownsRow_setCell_other h.s (fun e => by have := (h.s.lt _ e).1; dsimp only at this; omega) _,
    ownsRow_setCell_other h.n (fun e => by have := (h.n.lt _ e).1; dsimp only at this; omega) _, h.ap, h.bel.setCell h.x0 _, h.x0⟩
theorem NL.step {dk : List Doc} {d : Doc} (h : NL w0 wr x vl vs vn vn (Sg.symD dk ++ Sg.bytesN d.text ++ [0]) (Sg.lensD dk ++ [(d.text.size : Int)]) (dk.map Doc.id ++ [d.id]) (Sg.sizeD dk)) :
    NL w0 (wr.setCell ⟨x, 3, none⟩ (.int .i64 ((Sg.sizeD dk : Int) + (d.text.size : Int)))).drew x vl vs vn vn (Sg.symD (dk ++ [d])) (Sg.lensD (dk ++ [d])) ((dk ++ [d]).map Doc.id) (Sg.sizeD (dk ++ [d])) := by
  have h1 := h.stZ (Sg.sizeD dk + d.text.size)
  rw [Int.natCast_add] at h1
  rw [Sg.sizeD_snoc, List.map_append, show Sg.symD (dk ++ [d]) = Sg.symD dk ++ Sg.bytesN d.text ++ [0] from by simp [Sg.symD], show Sg.lensD (dk ++ [d]) = Sg.lensD dk ++ [(d.text.size : Int)] from by simp [Sg.lensD]]
  exact h1.ext (below_drewA (Below.refl _ _))
end
theorem fmN_low {w : World} {x k D lo lo' : Nat} {s b : List Nat} (h : FmN w x k D s b lo) (hl : lo' ≤ lo) : FmN w x k D s b lo' := by
  obtain ⟨p, kp, A, c, B, c', X, h0, h1, h2, h3, h4, h5, h6, h7, h8, h9, h10, h11, h12⟩ := h.out
  exact ⟨p, kp, A, c, B, c', X, h0, h1, h2, h3, h4, h5.low hl, h6.low hl, h7, h8, h9, Nat.le_trans hl h10, fun a ha => Nat.le_trans hl (h11 a ha), fun a ha => Nat.le_trans hl (h12 a ha)⟩
theorem bndN_low {w : World} {p lo lo' : Nat} {xs : List Int} (h : BndN lo w p xs) (hl : lo' ≤ lo) : BndN lo' w p xs := by
  obtain ⟨A, c, h1, h2, h3, h4, h5⟩ := h
  exact ⟨A, c, h1, h2, h3, Nat.le_trans hl h4, fun a ha => Nat.le_trans hl (h5 a ha)⟩
theorem grown_set (w : World) (a : Addr) (u : Value) : w.grownBy (w.setCell a u) (some a.block) := ⟨rfl, rfl, rfl, by rw [World.size_setCell]; exact Nat.le_refl _, fun q _ hq => Below.heap_setCell _ _ _ q (fun e => hq (by rw [e]))⟩
theorem symLen (ds : List Doc) : (Sg.symD ds).length = Sg.sizeD ds + ds.length := by
  induction ds with
  | nil => rfl
  | cons d ds ih =>
    rw [show Sg.symD (d :: ds) = Sg.bytesN d.text ++ [0] ++ Sg.symD ds from by simp [Sg.symD], List.length_append, ih]
    have : (Sg.bytesN d.text).length = d.text.size := by unfold Sg.bytesN; rw [List.length_map, Go.ByteArray.toList_eq]; cases d.text; rfl
    simp [Sg.sizeD, this]; omega
theorem chk_none {ds : List Doc} (h : Sg.chkD ds = 0) : ds.length ≤ 64 ∧ Sg.sizeD ds ≤ 16384 := by
  unfold Sg.chkD Sg.muchB at h
  split at h
  · split at h
    · cases h
    · rename_i hm
      simp only [Bool.or_eq_true, decide_eq_true_eq, not_or] at hm
      omega
  · cases h
theorem info_strN : (Try.prog.info? 9).map (fun i => (i.zero, i.size, i.bytes)) = some (some (.string ⟨#[]⟩), 1, 16) := by kernel_rfl
/-- A segment in memory of the call's own. -/
def SegN (w : World) (p : Nat) (ds : List Doc) (base : Nat) : Prop := ∃ ix A c bp D b, Blk w p 64 [.pointer (some ⟨ix, 0, none⟩), .slice A ds.length c, .pointer (some ⟨bp, 0, none⟩), .int .i64 (Sg.sizeD ds : Int)] ∧
  Fm.FmC 257 D (Sg.symD ds) b ∧ FmN w ix 257 D (Sg.symD ds) b base ∧ BndN base w bp (startsI (Sg.lensD ds) (ds.length + 1)) ∧ Rds w A (ds.map fun d => Value.string d.id) ∧ (∀ a, A = some a → base ≤ a.block) ∧ base ≤ p
def NewSPost (w : World) (ds : List Doc) (e : Ending) (w' : World) : Prop := Below w.heap.size w w' ∧
  ((Sg.chkD ds ≠ 0 ∧ e = .returned (.tuple #[.pointer none, .int .i64 (Sg.chkD ds : Int)])) ∨ (Sg.chkD ds = 0 ∧ ∃ p, e = .returned (.tuple #[.pointer (some ⟨p, 0, none⟩), .int .i64 0]) ∧ SegN w' p ds w.heap.size))
set_option maxRecDepth 100000 in
set_option maxHeartbeats 4000000 in
theorem NewS_any (w : World) (A : Option Addr) (c n : Nat) (ds : List Doc) (hn : ds.length = n) (hm : n ≤ 4611686018427387903) (hz : Sg.sizeD ds ≤ 1000000000) (hr : Rds w A (docsC ds)) :
    Calls Try.prog 26 #[.slice A n c] w (NewSPost w ds) := by
  have HC := Lib.hid (Check_any w A c n ds hn hm hz hr)
  have HR := Lib.hid hr
  have HN := Lib.hid hn
  clear hr hn hz
  go_enter Try.func26, Try.ntmps26
  by_cases h0 : Sg.chkD ds = 0
  · have H0 := Lib.hid h0
    rw [h0] at HC
    have h64 := (chk_none h0).1
    have h16 := (chk_none h0).2
    rw [HN.out] at h64
    have H16 := Lib.hid h16
    clear h0 h16
    go_wp2_with fail
    refine HC.out.mono ?_
    rintro e w1 ⟨rfl, hB⟩
    have HB := Lib.hid hB
    have hsz := hB.size
    clear hB
    go_wp2
    obtain ⟨x, HX⟩ : ∃ x, Hid (x = w1.heap.size) := ⟨_, Lib.hid rfl⟩
    go_loopw [6, 7, 19] (fun vl vs i wr => ∃ (k : Nat) (vn : Value), i = .int .i64 (k : Int) ∧ k ≤ n ∧ Hid (NL w wr w1.heap.size vl vs vn vn (Sg.symD (ds.take k)) (Sg.lensD (ds.take k)) ((ds.take k).map Doc.id) (Sg.sizeD (ds.take k)))) (fun _ _ i _ => n - (intOf i).toNat)
    case atStart =>
      refine ⟨0, .slice none 0 0, rfl, by omega, Lib.hid ⟨Blk.new _ _ _, World.ownsRow_nil _ _ _ _, World.ownsRow_nil _ _ _ _, World.ownsRow_nil _ _ _ _, fun k hk => (by cases hk), HB.out.alloc hsz _, hsz⟩⟩
    case round =>
      obtain ⟨k, vn, rfl, hk, HL⟩ := hrel
      by_cases h1 : k < n
      · have h1i : (k : Int) < (n : Int) := by omega
        have hk' : k < ds.length := by rw [HN.out]; exact h1
        have HRq := Lib.hid (HR.out.ext HL.out.bel (Nat.le_refl _))
        obtain ⟨a, rfl, hc0, hc1⟩ := docs_cells HRq.out k hk'
        have hz1 : Sg.sizeD (ds.take k) + ds[k].text.size ≤ 16384 := by
          rw [← Sg.sizeD_take hk']; exact Nat.le_trans (Sg.sizeD_mono _ _) H16.out
        have hsl : (Sg.symD (ds.take k)).length = Sg.sizeD (ds.take k) + k := by rw [symLen, List.length_take, Nat.min_eq_left (by omega)]
        have HTK : Hid (ds.take (k + 1) = ds.take k ++ [ds[k]]) := List.take_succ_eq_append_getElem hk'
        have htl : (ds.take k).length = k := by rw [List.length_take, Nat.min_eq_left (by omega)]
        generalize ds[k] = d at *
        generalize ds.take k = dk at *
        obtain ⟨vl, rfl⟩ : ∃ z, z = u6 := ⟨_, rfl⟩
        obtain ⟨vs, rfl⟩ : ∃ z, z = u7 := ⟨_, rfl⟩
        go_upto_region 9 with (fail)
        have HXR : Hid (wr.heap.size ≠ w1.heap.size) := Lib.hid (by have := HL.out.blk.lt; omega)
        obtain ⟨w2, hw2⟩ : ∃ z, z = wr.alloc (Obj.cells #[Value.string d.id, Value.string d.text] 52) := ⟨_, rfl⟩
        have hB2 : Blk w2 wr.heap.size 52 [.string d.id, .string d.text] := by rw [hw2]; exact Blk.new _ _ _
        have hL2 : NL w w2 w1.heap.size vl vs vn vn (Sg.symD dk) (Sg.lensD dk) (dk.map Doc.id) (Sg.sizeD dk) := by rw [hw2]; exact HL.out.ext ((Below.refl _ _).alloc (Nat.le_refl _) _)
        rw [← hw2]
        have HB2 := Lib.hid hB2
        have HL2 := Lib.hid hL2
        have hb1 := hB2.cell (o := 1) rfl
        have HBL : Hid ((Sg.bytesN d.text).length = d.text.size) := by show _ = _; unfold Sg.bytesN; rw [List.length_map, Go.ByteArray.toList_eq]; cases d.text; rfl
        have HS := Lib.hid (symbols_any w2 d.text (by omega))
        rw [HBL.out] at HS
        clear hw2 hB2 hL2 hc0 hc1 HRq HL
        go_upto_region 10 with (fail)
        refine HS.out.mono ?_
        rintro e w3 ⟨v3, rfl, hown3, hb3⟩
        obtain ⟨A3, c3, rfl, _, _, hA3, hr3, _⟩ := own_rds hown3
        have HL3 := Lib.hid (HL2.out.ext hb3)
        have HB3 := Lib.hid (HB2.out.ext hb3 (Nat.le_refl _))
        have HA3 : Hid (A3 = none → d.text.size = 0 ∧ c3 = 0) := hA3
        have HR3 := Lib.hid hr3
        have HLN : Hid ((natsC (Sg.bytesN d.text)).length = d.text.size * 1) := by show _ = _; rw [Nat.mul_one, ← HBL.out]; simp [natsC]
        have hs3 : w1.heap.size + 1 ≤ w3.heap.size := by have := HL3.out.blk.lt; omega
        clear HL2 HB2 hb1 hown3 hb3 hA3 hr3 HS
        go_upto_region 10 with (first
          | (at_builtin; refine wp_appAt rfl _ _ 57 rfl (w1.heap.size + 1) 3 (.int .i64 0) 1 8 Try.underlying57 info_intS rfl (by decide) (by decide) _ _ _ rfl HL3.out.l A3 _ c3 _ rfl HA3.out HLN.out HR3.out (by intro u hu; obtain ⟨y, _, rfl⟩ := List.mem_map.1 hu; rfl) (by omega) hs3 ?_; intro v4 w4 hown4 hg4 hat4
             have HL4 := Lib.hid (HL3.out.growL (M := Sg.bytesN d.text) (by rw [HBL.out]; exact hown4) hg4 hat4)
             have HB4 := Lib.hid (HB3.out.grown hg4 (own_ne HL3.out.l HB3.out (by decide)))
             have hs4 : w1.heap.size + 1 ≤ w4.heap.size := by have := HL4.out.blk.lt; omega
             have hll4 : (Sg.symD dk ++ Sg.bytesN d.text).length ≤ 100000 := by rw [List.length_append, HBL.out]; omega
             clear hown4 hg4 hat4)
          | (at_builtin; refine wp_app1At (w0 := w4) rfl rfl _ _ 57 rfl (w1.heap.size + 1) 3 (.int .i64 0) 1 8 Try.underlying57 info_intS rfl (by decide) (by decide) _ _ _ rfl HL4.out.l rfl rfl (one_cell1 rfl) (by omega) hs4 ?_; intro v5 w5 hown5 hg5 hat5 hb5
             have HL5 := Lib.hid ((HL4.out.ext ((Below.refl _ _).alloc (Nat.le_refl _) _)).growL (M := [0]) hown5 hg5 hat5)
             have HB5 := Lib.hid ((HB4.out.ext ((Below.refl _ _).alloc (Nat.le_refl _) (.cells #[.int .i64 0] 3)) (Nat.le_refl _)).grown hg5 (own_ne HL4.out.l HB4.out (by decide)))
             have hs5 : w1.heap.size + 1 ≤ w5.heap.size := by have := HL5.out.blk.lt; omega
             have hl5 : (Sg.lensD dk).length ≤ 64 := by rw [Sg.lensD_len, htl]; omega
             have hb51 := HB5.out.cell (o := 1) rfl
             have hb50 := HB5.out.cell (o := 0) rfl
             clear hown5 hg5 hat5 hb5))
        go_upto_region 11 with (at_builtin; refine wp_app1At (w0 := w5) rfl rfl _ _ 57 rfl (w1.heap.size + 1) 3 (.int .i64 0) 1 8 Try.underlying57 info_intS rfl (by decide) (by decide) _ _ _ rfl HL5.out.s rfl rfl (one_cell1 rfl) (by omega) hs5 ?_; intro v6 w6 hown6 hg6 hat6 hb6
                                have HL6 := Lib.hid ((HL5.out.ext ((Below.refl _ _).alloc (Nat.le_refl _) _)).growS hown6 hg6 hat6)
                                have HB6 := Lib.hid ((HB5.out.ext ((Below.refl _ _).alloc (Nat.le_refl _) (.cells #[.int .i64 (d.text.size : Int)] 3)) (Nat.le_refl _)).grown hg6 (own_ne HL5.out.s HB5.out (by decide)))
                                clear hown6 hg6 hat6 hb6)
        have hx1 := HL6.out.blk.cell (o := 1) rfl
        have hd0 := HB6.out.cell (o := 0) rfl
        have HL7 := Lib.hid (HL6.out.ext ((below_drewA (Below.refl w6.heap.size w6)).alloc (Nat.le_refl _) (.cells #[.string d.id] 9)))
        have HR7 : Hid (Rds (w6.drew.alloc (.cells #[.string d.id] 9)) (some ⟨w6.heap.size, 0, none⟩) [.string d.id]) := rds_litN w6.drew #[.string d.id] 9
        have hs7 : w1.heap.size + 1 ≤ (w6.drew.alloc (.cells #[.string d.id] 9)).heap.size := by have := HL7.out.blk.lt; omega
        have HBY : Hid (((dk.map Doc.id).length + 1) * 16 ≤ 140737488355328) := by show _ ≤ _; rw [List.length_map, htl]; omega
        have hy1 : (w6.alloc (.cells #[.string d.id] 9)).cell? ⟨w1.heap.size, 1, none⟩ = some vn := (HL6.out.ext ((Below.refl w6.heap.size w6).alloc (Nat.le_refl _) (.cells #[.string d.id] 9))).blk.cell (o := 1) rfl
        have HNE := Lib.hid (own_ne HL6.out.n HL6.out.blk (by decide))
        have HNB := Lib.hid (own_ne HL6.out.n HB6.out (by decide))
        go_region_law
          (first | (refine app_opN rfl _ _ 38 rfl (w1.heap.size + 1) 9 (.string ⟨#[]⟩) 1 16 Try.underlying38 info_strN rfl (by decide) (by decide) _ (dk.map Doc.id).length _ rfl HL7.out.n ⟨w6.heap.size, 0, none⟩ 1 1 [.string d.id] rfl rfl HR7.out (by intro u hu; simp at hu; rcases hu with rfl; rfl) HBY.out hs7 ?_
                    intro v7 w7 hown7 hg7
                    obtain ⟨A7, c7, rfl, _, _, _, _, _⟩ := own_rds hown7
                    have HL8 := Lib.hid (HL7.out.growN hown7 hg7)
                    have HB8 := Lib.hid ((HB6.out.ext ((below_drewA (Below.refl w6.heap.size w6)).alloc (Nat.le_refl _) (.cells #[.string d.id] 9)) (Nat.le_refl _)).grown hg7 HNB.out)
                    have hq := HL7.out.blk.lt
                    clear hx1 hd0
                    have hx1 := HL8.out.blk.cell (o := 1) rfl
                    have hxf := HL8.out.blk.froz 1
                    clear hown7 hg7
                    have hd0 := HB8.out.cell (o := 0) rfl))
        all_goals
          have e7 : (dk.map Doc.id).length = k := by rw [List.length_map, htl]
          have HL9 := Lib.hid HL8.out.stN
          rw [e7] at HL9
          clear e7
          have HB9 := Lib.hid (HB8.out.far (q := w1.heap.size) (o := 1) (.slice A7 (k + 1) c7) HXR.out)
          obtain ⟨w9, hw9⟩ : ∃ z, z = w7.setCell ⟨w1.heap.size, 1, none⟩ (.slice A7 (k + 1) c7) := ⟨_, rfl⟩
          rw [← hw9] at HL9 HB9
          have hz3 := HL9.out.blk.cell (o := 3) rfl
          have hzf := HL9.out.blk.froz 3
          have hzt := HB9.out.cell (o := 1) rfl
          clear hx1 hd0 hy1 hxf HL8 HB8 HL7 HR7 HNE HNB HL6 HB6 HL5 HB5 HL4 HB4 HL3 HB3
          try rw [← hw9]
          clear hw9
          have v3 : IntKind.i64.wrap ((Sg.sizeD dk : Int) + (d.text.size : Int)) = (Sg.sizeD dk : Int) + (d.text.size : Int) := wrap_idB (by omega)
          go_wp2
          go_region_with (fail)
          all_goals
            have HL10 := Lib.hid HL9.out.step
            rw [← HTK.out] at HL10
            clear hz3 hzf hzt HL9 HB9 v3
            go_wp2
            go_roundw
            case rel => exact ⟨k + 1, _, by go_num, by omega, HL10⟩
            case measure => first | (simp [intOf]; done) | (simp [intOf]; omega)
      · obtain rfl : k = n := by omega
        have h1i : ¬ (k : Int) < (k : Int) := by omega
        have HTA : Hid (ds.take k = ds) := List.take_of_length_le (by rw [HN.out]; exact Nat.le_refl _)
        rw [HTA.out] at HL
        have hsl : (Sg.symD ds).length ≤ 131072 := by rw [symLen]; have := H16.out; have := HN.out; omega
        obtain ⟨vl, rfl⟩ : ∃ z, z = u6 := ⟨_, rfl⟩
        obtain ⟨vs, rfl⟩ : ∃ z, z = u7 := ⟨_, rfl⟩
        obtain ⟨AL, cL, rfl, _, _, hAL, hrL, _⟩ := own_rds HL.out.l
        obtain ⟨AS, cS, rfl, _, _, hAS, hrS, _⟩ := own_rds HL.out.s
        have HBU : Hid (Calls Try.prog 51 #[.int .i64 257, .slice AL (Sg.symD ds).length cL] wr (BuildPost wr 257 ((Sg.symD ds).map Int.ofNat))) := by
          show Calls _ _ _ _ _
          have h := Build_any wr AL cL 257 ((Sg.symD ds).map Int.ofNat) (by rw [List.length_map]; exact hsl) (by unfold intsV; rw [List.map_map]; exact hrL) (by rw [List.length_map]; exact hAL)
          rwa [List.length_map] at h
        clear hrL hAL
        go_wp2_with fail
        refine HBU.out.mono ?_
        rintro e w2 ⟨hb, ⟨hno, rfl⟩ | ⟨hok, p1, D1, b1, rfl, hc1, hf1⟩⟩
        · exact absurd (show okTree 257 _ from ⟨by omega, by omega, fun y hy => by
            obtain ⟨z, hz, rfl⟩ := List.mem_map.1 hy
            have := Sg.symD_lt ds z hz
            exact ⟨by simp, by simp; omega⟩⟩) hno
        · have HMM : Hid (((Sg.symD ds).map Int.ofNat).map Int.toNat = Sg.symD ds) := by
            show _ = _; rw [List.map_map]; exact (List.map_congr_left (fun z _ => rfl)).trans (List.map_id _)
          rw [HMM.out] at hc1 hf1
          have HC1 := Lib.hid hc1
          have HF1 := Lib.hid hf1
          have HL2 := Lib.hid (HL.out.ext hb)
          have hx0 := HL2.out.blk.cell (o := 0) rfl
          have hxf := HL2.out.blk.froz 0
          have hsw := hb.size
          have hpw : w1.heap.size < wr.heap.size := HL.out.blk.lt
          clear hc1 hf1 hb hok
          go_wp2_with fail
          obtain ⟨w3, hw3⟩ : ∃ z, z = w2.setCell ⟨w1.heap.size, 0, none⟩ (.pointer (some ⟨p1, 0, none⟩)) := ⟨_, rfl⟩
          have HF3 : Hid (FmN w3 p1 257 D1 (Sg.symD ds) b1 wr.heap.size) := by
            rw [hw3]
            exact HF1.out.grown (row := some w1.heap.size) ⟨rfl, rfl, rfl, by rw [World.size_setCell]; exact Nat.le_refl _, fun q _ hq => Below.heap_setCell _ _ _ q (fun e => hq (by rw [e]))⟩ (fun q hq => by cases hq; exact hpw)
          rw [← hw3]
          have hpw3 : w1.heap.size < w3.heap.size := by rw [hw3, World.size_setCell]; omega
          have HLR : Hid (∀ y ∈ Sg.lensD ds, 0 ≤ y ∧ y ≤ 16384) := fun y hy => by
            unfold Sg.lensD at hy
            obtain ⟨d, hd, rfl⟩ := List.mem_map.1 hy
            obtain ⟨i, hi, rfl⟩ := List.getElem_of_mem hd
            have h1 := Sg.sizeD_take hi
            have h2 := Sg.sizeD_mono ds (i + 1)
            have := H16.out
            omega
          have HOK : Hid (okI (Sg.lensD ds)) := ⟨fun y hy => (HLR.out y hy).1, by rw [Sg.lensD_len, HN.out]; exact h64, by rw [Sg.lensD_len, ← Sg.symD_length]; omega⟩
          have HS3 : Hid (Rds w3 AS (intsI (Sg.lensD ds))) := by
            show Rds _ _ _
            obtain ⟨A9, c9, e9, _, _, _, h9, k9⟩ := own_rds HL2.out.s
            obtain ⟨rfl, rfl⟩ : AS = A9 ∧ cS = c9 := by simpa using e9
            rw [hw3]
            exact rds_far h9 (fun a ha e => by obtain ⟨g, rfl, hg, _⟩ := k9 a ha; dsimp only at e; omega) _
          refine (New_any w3 AS (Sg.lensD ds).length cS (Sg.lensD ds) rfl (by rw [Sg.lensD_len]; have := HN.out; omega) (fun y hy => by have := HLR.out y hy; omega) HS3.out).mono ?_
          rintro e w4 ⟨hb4, ⟨_, bp, rfl, hbn⟩ | ⟨hno, _⟩⟩
          · have HB4 := Lib.hid hb4
            have HBN := Lib.hid hbn
            clear hb4 hbn
            have hs4 := HB4.out.size
            have HK4 : Hid (Blk w4 w1.heap.size 64 [.pointer (some ⟨p1, 0, none⟩), vn, .pointer none, .int .i64 (Sg.sizeD ds : Int)]) := by
              have h3 : Blk w3 w1.heap.size 64 [.pointer (some ⟨p1, 0, none⟩), vn, .pointer none, .int .i64 (Sg.sizeD ds : Int)] := by rw [hw3]; exact HL2.out.blk.set 0 _
              exact h3.ext HB4.out (Nat.le_refl _)
            have hk2 := HK4.out.cell (o := 2) rfl
            have hkf := HK4.out.froz 2
            have hx3 : Below w.heap.size w w3 := by rw [hw3]; exact HL2.out.bel.setCell HL2.out.x0 _
            obtain ⟨AN, cN, rfl, _, _, _, rn, kn⟩ := own_rds HL2.out.n
            have HRN : Hid (Rds w4 AN ((ds.map Doc.id).map Value.string)) := by
              show Rds _ _ _
              have h3 : Rds w3 AN ((ds.map Doc.id).map Value.string) := by
                rw [hw3]; exact rds_far rn (fun a ha e => by obtain ⟨g, rfl, hg, _⟩ := kn a ha; dsimp only at e; omega) _
              exact h3.ext HB4.out (Nat.le_refl _)
            have HX3 := Lib.hid hx3
            have HKN := Lib.hid kn
            have hw34 : w.heap.size ≤ w3.heap.size := hx3.size
            clear hx3 rn kn hw3
            go_wp2
            go_ret2
            refine ⟨(HX3.out.trans (HB4.out.mono hw34)).setCell hsz _, .inr ⟨H0.out, _, rfl, p1, AN, cN, bp, D1, b1, ?_, HC1.out, ?_, ?_, ?_, ?_, hsz⟩⟩
            · have h := HK4.out.set 2 (.pointer (some ⟨bp, 0, none⟩))
              rw [List.length_map] at h
              exact h
            · exact fmN_low ((HF3.out.ext HB4.out (Nat.le_refl _)).grown (grown_set w4 ⟨w1.heap.size, 2, none⟩ (.pointer (some ⟨bp, 0, none⟩))) (fun q hq => by cases hq; exact hpw)) (by omega)
            · have h := bndN_low (BndN.grown HBN.out (grown_set w4 ⟨w1.heap.size, 2, none⟩ (.pointer (some ⟨bp, 0, none⟩))) (fun q hq => by cases hq; show w1.heap.size < w3.heap.size; exact hpw3)) hw34
              rw [Sg.lensD_len] at h
              exact h
            · have h := rds_far HRN.out (q := w1.heap.size) (o := 2) (fun a ha e => by obtain ⟨g, rfl, hg, _⟩ := HKN.out a ha; dsimp only at e; omega) (.pointer (some ⟨bp, 0, none⟩))
              rw [List.map_map] at h
              exact h
            · intro a ha
              obtain ⟨g, rfl, hg, _⟩ := HKN.out a ha
              show _ ≤ g
              omega
          · exact absurd HOK.out hno
  · have HE := Lib.hid h0
    have hci : ¬ ((Sg.chkD ds : Nat) : Int) = 0 := by omega
    go_wp2_with fail
    refine HC.out.mono ?_
    rintro e w1 ⟨rfl, hB⟩
    have HB := Lib.hid hB
    clear hB
    go_wp2
    go_ret2
    exact ⟨HB.out, .inl ⟨HE.out, rfl⟩⟩
end Go.Proofs.Ytjpcfpffbicpnaa
