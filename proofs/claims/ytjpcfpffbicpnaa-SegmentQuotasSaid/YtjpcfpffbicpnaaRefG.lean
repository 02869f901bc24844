/- The walks of the reference's Asks, Hits. -/
import Derived.Test.YtjpcfpffbicpnaaPackSeg
import Derived.Test.YtjpcfpffbicpnaaSegP
set_option linter.unusedVariables false
set_option linter.unusedSimpArgs false
namespace Go.Proofs.Ytjpcfpffbicpnaa
open Go.RowKit Lec
set_option maxRecDepth 100000 in
theorem refAsks_any (w : World) (p : ByteArray) : Calls Try.prog 20 #[.string p, .int .i64 1] w fun e w' => e = .returned (.int .i64 (Sg.asksP p : Int)) ∧ w = w' := by
  go_enter Try.func20, Try.ntmps20
  by_cases h0 : p.size = 0
  · have HA : Hid (Sg.asksP p = 5) := by show _ = _; unfold Sg.asksP; rw [if_neg (by omega), if_pos h0]
    have hp : p.toList.isEmpty = true := List.isEmpty_iff.2 (List.eq_nil_of_length_eq_zero (by rw [Sg.toList_len, h0]))
    go_wp2
    go_ret
    exact ⟨by rw [HA.out]; rfl, rfl⟩
  · have hp : p.toList.isEmpty = false := by
      rw [Bool.eq_false_iff]; intro e; exact h0 (by rw [← Sg.toList_len, List.isEmpty_iff.1 e]; rfl)
    by_cases h1 : 4096 < p.size
    · have h1i : (4096 : Int) < (p.size : Int) := by omega
      have HA : Hid (Sg.asksP p = 2) := by show _ = _; unfold Sg.asksP; rw [if_pos h1]
      go_wp2
      go_ret
      exact ⟨by rw [HA.out]; rfl, rfl⟩
    · have h1i : ¬ (4096 : Int) < (p.size : Int) := by omega
      have HA : Hid (Sg.asksP p = 0) := by show _ = _; unfold Sg.asksP; rw [if_neg h1, if_neg h0]
      go_wp2
      go_ret
      exact ⟨by rw [HA.out]; rfl, rfl⟩
theorem info_hitR : (Try.prog.info? 56).map (fun i => (i.zero, i.size, i.bytes)) = some (some (.agg #[.string ⟨#[]⟩, .int .i64 0]), 2, 24) := by kernel_rfl
set_option maxRecDepth 100000 in
set_option maxHeartbeats 1000000 in
theorem refHits_any (w : World) (A : Option Addr) (c n : Nat) (ds : List Doc) (hn : ds.length = n) (hm : n ≤ 1000000) (hz : Sg.sizeD ds ≤ 1000000) (hr : Rds w A (docsC ds)) (p : ByteArray) (hp : p.size ≤ 1000000) :
    Calls Try.prog 21 #[.slice A n c, .string p] w fun e w' => ∃ v, e = .returned v ∧ w'.ownsRow w.heap.size 56 2 v (Sg.hitsD ds p).length (hitsC (Sg.hitsD ds p)) ∧ Below w.heap.size w w' := by
  have HR := Lib.hid hr
  have HN := Lib.hid hn
  have HZ := Lib.hid hz
  clear hr hn hz
  go_enter Try.func21, Try.ntmps21
  go_wp2
  go_loopw [5, 6] (fun v i wx => ∃ k : Nat, k ≤ n ∧ i = .int .i64 (k : Int) ∧ Hid (wx.ownsRow w.heap.size 56 2 v (Sg.hitsD (ds.take k) p).length (hitsC (Sg.hitsD (ds.take k) p))) ∧ (Sg.hitsD (ds.take k) p).length ≤ Sg.sizeD (ds.take k) + k ∧ Hid (Below w.heap.size w wx)) (fun _ i _ => n - (intOf i).toNat)
  case atStart => exact ⟨0, by omega, rfl, World.ownsRow_nil _ _ _ _, by simp [Sg.hitsD], Lib.hid (Below.refl _ _)⟩
  case round =>
    obtain ⟨k, hk, rfl, HO, hol, HB⟩ := hrel
    by_cases h1 : k < n
    · have h1i : (k : Int) < (n : Int) := by omega
      have hk' : k < ds.length := by rw [HN.out]; exact h1
      have hz1 : Sg.sizeD (ds.take k) + ds[k].text.size ≤ 1000000 := by
        rw [← Sg.sizeD_take hk']; exact Nat.le_trans (Sg.sizeD_mono _ _) HZ.out
      have HZ1 : Hid (Sg.sizeD (ds.take (k + 1)) = Sg.sizeD (ds.take k) + ds[k].text.size) := Sg.sizeD_take hk'
      have HTK : Hid (Sg.hitsD (ds.take (k + 1)) p = Sg.hitsD (ds.take k) p ++ Sg.textH ds[k] p (ds[k].text.size + 1 - p.size)) := Lib.hid (by
        rw [List.take_succ_eq_append_getElem hk', Sg.hitsD_snoc])
      have HCC : Hid (∀ wx, Below w.heap.size w wx → ∃ a, A = some a ∧ wx.cell? (a.add (k * 2)) = some (.string ds[k].id) ∧ wx.cell? ⟨(a.add (k * 2)).block, (a.add (k * 2)).off + 1, none⟩ = some (.string ds[k].text)) := Lib.hid fun wx hx => docs_cells (HR.out.ext hx (Nat.le_refl _)) k hk'
      generalize ds[k] = d at *
      generalize Sg.hitsD (ds.take k) p = X at *
      generalize Sg.sizeD (ds.take k) = z at *
      obtain ⟨a, rfl, _, _⟩ := HCC.out wr HB.out
      have HC2 : Hid (∀ wx, Below w.heap.size w wx → wx.cell? (a.add (k * 2)) = some (.string d.id) ∧ wx.cell? ⟨(a.add (k * 2)).block, (a.add (k * 2)).off + 1, none⟩ = some (.string d.text)) := Lib.hid fun wx hx => by
        obtain ⟨a2, e, h⟩ := HCC.out wx hx
        obtain rfl := Option.some.inj e
        exact h
      clear HCC
      have HSL : Hid (∀ j, (Sg.textH d p j).length ≤ j) := Lib.hid (Sg.textH_len d p)
      obtain ⟨M, hM⟩ : ∃ M, M = d.text.size + 1 - p.size := ⟨_, rfl⟩
      have hdm : d.text.size ≤ 1000000 := by omega
      have hx1 : X.length ≤ 2000000 := by omega
      rw [← hM] at HTK
      go_wp2
      go_loopw [5, 7] (fun v i wx => ∃ j : Nat, j ≤ M ∧ i = .int .i64 (j : Int) ∧ Hid (wx.ownsRow w.heap.size 56 2 v (X ++ Sg.textH d p j).length (hitsC (X ++ Sg.textH d p j))) ∧ Hid (Below w.heap.size w wx)) (fun _ i _ => M - (intOf i).toNat)
      case atStart => exact ⟨0, by omega, rfl, by show World.ownsRow _ _ _ _ _ _ _; rw [show Sg.textH d p 0 = [] from rfl, List.append_nil]; exact HO.out, HB⟩
      case round =>
        obtain ⟨j, hj, rfl, HO, HB⟩ := hrel
        have hc0 := (HC2.out _ HB.out).1
        have hc1 := (HC2.out _ HB.out).2
        obtain ⟨v, rfl⟩ : ∃ z, z = u5 := ⟨_, rfl⟩
        by_cases h2 : j < M
        · have h2i : (j : Int) ≤ (d.text.size : Int) - (p.size : Int) := by omega
          have h3i : (j : Int) + (p.size : Int) ≤ (d.text.size : Int) := by omega
          have HST := Lib.hid (Sg.textH_step d p j)
          have htl := HSL.out j
          generalize Sg.textH d p j = Y at *
          have hll : (X ++ Y).length ≤ 4000000 := by rw [List.length_append]; omega
          have HEX := Lib.hid (Sg.here_ext d.text p j)
          cases hh : Sg.hereT d.text p j with
          | true =>
            rw [hh] at HST HEX
            have hex := HEX.out
            have HO3 := HO
            have hs3 := HB.out.size
            simp only [if_true] at HST
            clear hh h2
            go_wp2_with (at_builtin; refine wp_app1 (w0 := wr) rfl rfl _ _ 45 rfl w.heap.size 56 (.agg #[.string ⟨#[]⟩, .int .i64 0]) 2 24 Try.underlying45 info_hitR rfl (by decide) (by decide) _ (X ++ Y).length _ rfl HO3.out rfl rfl (by intro u hu; simp at hu; rcases hu with rfl | rfl <;> rfl) (by omega) hs3 ?_; intro v' w4 hown hg1 hb1)
            go_roundw
            case rel =>
              refine ⟨j + 1, by omega, by go_num, ?_, Lib.hid (HB.out.trans hb1)⟩
              show World.ownsRow _ _ _ _ _ _ _
              rw [HST.out, ← List.append_assoc, List.length_append, hitsC_app]; exact hown
            case measure => simp [intOf]; omega
          | false =>
            rw [hh] at HST HEX
            have hex := HEX.out
            have HO3 := HO
            simp only [Bool.false_eq_true, if_false, List.append_nil] at HST
            clear hh h2
            go_wp2
            go_roundw
            case rel => exact ⟨j + 1, by omega, by go_num, by show World.ownsRow _ _ _ _ _ _ _; rw [HST.out]; exact HO3.out, HB⟩
            case measure => simp [intOf]; omega
        · obtain rfl : j = M := by omega
          have h2i : ¬ (j : Int) ≤ (d.text.size : Int) - (p.size : Int) := by omega
          have htl := HSL.out j
          rw [← HTK.out] at HO
          have HLN : Hid ((Sg.hitsD (ds.take (k + 1)) p).length ≤ Sg.sizeD (ds.take (k + 1)) + (k + 1)) := by
            show _ ≤ _; rw [HTK.out, HZ1.out, List.length_append]; omega
          go_wp2
          go_roundw
          case rel => exact ⟨k + 1, by omega, by go_num, HO, HLN.out, HB⟩
          case measure => simp [intOf]; omega
    · obtain rfl : k = n := by omega
      have h1i : ¬ (k : Int) < (k : Int) := by omega
      have HTA : Hid (ds.take k = ds) := List.take_of_length_le (by rw [HN.out]; exact Nat.le_refl _)
      rw [HTA.out] at HO
      go_wp2
      go_ret
      exact ⟨_, rfl, HO.out, HB.out⟩
theorem info_intR : (Try.prog.info? 3).map (fun i => (i.zero, i.size, i.bytes)) = some (some (.int .i64 0), 1, 8) := by kernel_rfl
theorem bytes_step (s : ByteArray) {k : Nat} {c : UInt8} (h : s.toList[k]? = some c) : (Sg.bytesN s).take (k + 1) = (Sg.bytesN s).take k ++ [c.toNat + 1] := by
  have : (Sg.bytesN s)[k]? = some (c.toNat + 1) := by unfold Sg.bytesN; rw [List.getElem?_map, h]; rfl
  obtain ⟨h, e⟩ := List.getElem?_eq_some_iff.1 this
  rw [List.take_succ_eq_append_getElem h, e]
set_option maxRecDepth 100000 in
set_option maxHeartbeats 1000000 in
theorem refPattern_any (w : World) (s : ByteArray) (hs : s.size ≤ 1000000) :
    Calls Try.prog 34 #[.string s] w fun e w' => ∃ v, e = .returned v ∧ w'.ownsRow w.heap.size 3 1 v (Sg.bytesN s).length (natsC (Sg.bytesN s)) ∧ Below w.heap.size w w' := by
  go_enter Try.func34, Try.ntmps34
  go_wp2
  go_loopw [3, 4] (fun v i wx => ∃ k : Nat, k ≤ s.size ∧ i = .int .i64 (k : Int) ∧ Hid (wx.ownsRow w.heap.size 3 1 v ((Sg.bytesN s).take k).length (natsC ((Sg.bytesN s).take k))) ∧ Hid (Below w.heap.size w wx)) (fun _ i _ => s.size - (intOf i).toNat)
  case atStart => exact ⟨0, by omega, rfl, World.ownsRow_nil _ _ _ _, Lib.hid (Below.refl _ _)⟩
  case round =>
    obtain ⟨k, hk, rfl, HO, HB⟩ := hrel
    by_cases h8 : k < s.size
    · have h8i : (k : Int) < (s.size : Int) := by omega
      obtain ⟨c, hc1, hc2⟩ := bytes_get s k h8
      have hlt := c.toNat_lt
      have HT := Lib.hid (bytes_step s hc2)
      have hll : ((Sg.bytesN s).take k).length ≤ k := by rw [List.length_take]; omega
      have hsz := HB.out.size
      obtain ⟨v, rfl⟩ : ∃ z, z = u3 := ⟨_, rfl⟩
      generalize (Sg.bytesN s).take k = X at *
      go_wp2_with (at_builtin; refine wp_app1 (w0 := wr) rfl rfl _ _ 57 rfl w.heap.size 3 (.int .i64 0) 1 8 Try.underlying57 info_intR rfl (by decide) (by decide) _ _ _ rfl HO.out rfl rfl (one_cell1 rfl) (by omega) hsz ?_; intro v' w2 hown hg1 hb1)
      go_roundw
      case rel =>
        refine ⟨k + 1, by omega, by go_num, ?_, Lib.hid (HB.out.trans hb1)⟩
        show World.ownsRow _ _ _ _ _ _ _
        rw [HT.out, List.length_append]; unfold natsC at hown ⊢; rw [List.map_append]; exact hown
      case measure => simp [intOf]; omega
    · obtain rfl : k = s.size := by omega
      have h8i : ¬ (s.size : Int) < (s.size : Int) := by omega
      have HE : Hid ((Sg.bytesN s).take s.size = Sg.bytesN s) := by
        show _ = _
        refine List.take_of_length_le ?_
        rw [Sg.bytesN_len]; exact Nat.le_refl _
      rw [HE.out] at HO
      go_wp2
      go_ret
      exact ⟨_, rfl, HO.out, HB.out⟩
theorem symD_snoc (xs : List Doc) (d : Doc) : Sg.symD (xs ++ [d]) = Sg.symD xs ++ Sg.bytesN d.text ++ [0] := by simp [Sg.symD]
theorem symD_leng (ds : List Doc) : (Sg.symD ds).length = Sg.sizeD ds + ds.length := by
  induction ds with
  | nil => rfl
  | cons d ds ih =>
    rw [show Sg.symD (d :: ds) = Sg.bytesN d.text ++ [0] ++ Sg.symD ds from by simp [Sg.symD], List.length_append, ih]
    simp [Sg.sizeD, Sg.bytesN_len]; omega
set_option maxRecDepth 100000 in
set_option maxHeartbeats 1000000 in
theorem refSymbols_any (w : World) (A : Option Addr) (c n : Nat) (ds : List Doc) (hn : ds.length = n) (hm : n ≤ 1000000) (hz : Sg.sizeD ds ≤ 1000000) (hr : Rds w A (docsC ds)) :
    Calls Try.prog 28 #[.slice A n c] w fun e w' => ∃ v, e = .returned v ∧ w'.ownsRow w.heap.size 3 1 v (Sg.symD ds).length (natsC (Sg.symD ds)) ∧ Below w.heap.size w w' := by
  have HR := Lib.hid hr
  have HN := Lib.hid hn
  have HZ := Lib.hid hz
  clear hr hn hz
  go_enter Try.func28, Try.ntmps28
  go_wp2
  go_loopw [3, 4] (fun v i wx => ∃ k : Nat, k ≤ n ∧ i = .int .i64 (k : Int) ∧ Hid (wx.ownsRow w.heap.size 3 1 v (Sg.symD (ds.take k)).length (natsC (Sg.symD (ds.take k)))) ∧ Hid (Below w.heap.size w wx)) (fun _ i _ => n - (intOf i).toNat)
  case atStart => exact ⟨0, by omega, rfl, World.ownsRow_nil _ _ _ _, Lib.hid (Below.refl _ _)⟩
  case round =>
    obtain ⟨k, hk, rfl, HO, HB⟩ := hrel
    by_cases h1 : k < n
    · have h1i : (k : Int) < (n : Int) := by omega
      have hk' : k < ds.length := by rw [HN.out]; exact h1
      have hz1 : Sg.sizeD (ds.take k) + ds[k].text.size ≤ 1000000 := by
        rw [← Sg.sizeD_take hk']; exact Nat.le_trans (Sg.sizeD_mono _ _) HZ.out
      have htl : (ds.take k).length = k := by rw [List.length_take, Nat.min_eq_left (by omega)]
      have hxl := symD_leng (ds.take k)
      rw [htl] at hxl
      have HTK : Hid (Sg.symD (ds.take (k + 1)) = Sg.symD (ds.take k) ++ Sg.bytesN ds[k].text ++ [0]) := Lib.hid (by
        rw [List.take_succ_eq_append_getElem hk', symD_snoc])
      have HCC : Hid (∀ wx, Below w.heap.size w wx → ∃ a, A = some a ∧ wx.cell? (a.add (k * 2)) = some (.string ds[k].id) ∧ wx.cell? ⟨(a.add (k * 2)).block, (a.add (k * 2)).off + 1, none⟩ = some (.string ds[k].text)) := Lib.hid fun wx hx => docs_cells (HR.out.ext hx (Nat.le_refl _)) k hk'
      generalize ds[k] = d at *
      have hx1 : (Sg.symD (ds.take k)).length ≤ 2000000 := by omega
      clear hxl htl
      generalize Sg.symD (ds.take k) = X at *
      generalize Sg.sizeD (ds.take k) = z at *
      obtain ⟨a, rfl, _, _⟩ := HCC.out wr HB.out
      have HC2 : Hid (∀ wx, Below w.heap.size w wx → wx.cell? ⟨(a.add (k * 2)).block, (a.add (k * 2)).off + 1, none⟩ = some (.string d.text)) := Lib.hid fun wx hx => by
        obtain ⟨a2, e, _, h⟩ := HCC.out wx hx
        obtain rfl := Option.some.inj e
        exact h
      clear HCC
      have hdm : d.text.size ≤ 1000000 := by omega
      generalize d.text = s at *
      go_wp2
      go_loopw [3, 5] (fun v i wx => ∃ j : Nat, j ≤ s.size ∧ i = .int .i64 (j : Int) ∧ Hid (wx.ownsRow w.heap.size 3 1 v (X ++ (Sg.bytesN s).take j).length (natsC (X ++ (Sg.bytesN s).take j))) ∧ Hid (Below w.heap.size w wx)) (fun _ i _ => s.size - (intOf i).toNat)
      case atStart => exact ⟨0, by omega, rfl, by show World.ownsRow _ _ _ _ _ _ _; rw [List.take_zero, List.append_nil]; exact HO.out, HB⟩
      case round =>
        obtain ⟨j, hj, rfl, HO, HB⟩ := hrel
        have hc1 := HC2.out _ HB.out
        obtain ⟨v, rfl⟩ : ∃ z, z = u3 := ⟨_, rfl⟩
        by_cases h8 : j < s.size
        · have h8i : (j : Int) < (s.size : Int) := by omega
          obtain ⟨c, hc3, hc2⟩ := bytes_get s j h8
          have hlt := c.toNat_lt
          have HT := Lib.hid (bytes_step s hc2)
          have hll : ((Sg.bytesN s).take j).length ≤ j := by rw [List.length_take]; omega
          have hsz := HB.out.size
          generalize (Sg.bytesN s).take j = Y at *
          have hl2 : (X ++ Y).length ≤ 4000000 := by rw [List.length_append]; omega
          have HO2 := HO
          go_wp2_with (at_builtin; refine wp_app1 (w0 := wr) rfl rfl _ _ 57 rfl w.heap.size 3 (.int .i64 0) 1 8 Try.underlying57 info_intR rfl (by decide) (by decide) _ (X ++ Y).length _ rfl HO2.out rfl rfl (one_cell1 rfl) (by omega) hsz ?_; intro v' w2 hown hg1 hb1)
          go_roundw
          case rel =>
            refine ⟨j + 1, by omega, by go_num, ?_, Lib.hid (HB.out.trans hb1)⟩
            show World.ownsRow _ _ _ _ _ _ _
            rw [HT.out, ← List.append_assoc, List.length_append]; unfold natsC at hown ⊢; rw [List.map_append]; exact hown
          case measure => simp [intOf]; omega
        · obtain rfl : j = s.size := by omega
          have h8i : ¬ (s.size : Int) < (s.size : Int) := by omega
          have HE : Hid ((Sg.bytesN s).take s.size = Sg.bytesN s) := by
            show _ = _
            refine List.take_of_length_le ?_
            rw [Sg.bytesN_len]; exact Nat.le_refl _
          rw [HE.out] at HO
          have hl2 : (X ++ Sg.bytesN s).length ≤ 4000000 := by rw [List.length_append, Sg.bytesN_len]; omega
          have hsz := HB.out.size
          have HO2 := HO
          go_wp2_with (at_builtin; refine wp_app1 (w0 := wr) rfl rfl _ _ 57 rfl w.heap.size 3 (.int .i64 0) 1 8 Try.underlying57 info_intR rfl (by decide) (by decide) _ (X ++ Sg.bytesN s).length _ rfl HO2.out rfl rfl (one_cell1 rfl) (by omega) hsz ?_; intro v' w2 hown hg1 hb1)
          go_roundw
          case rel =>
            refine ⟨k + 1, by omega, by go_num, ?_, Lib.hid (HB.out.trans hb1)⟩
            show World.ownsRow _ _ _ _ _ _ _
            rw [HTK.out, List.length_append]; unfold natsC at hown ⊢; rw [List.map_append]; exact hown
          case measure => simp [intOf]; omega
    · obtain rfl : k = n := by omega
      have h1i : ¬ (k : Int) < (k : Int) := by omega
      have HTA : Hid (ds.take k = ds) := List.take_of_length_le (by rw [HN.out]; exact Nat.le_refl _)
      rw [HTA.out] at HO
      go_wp2
      go_ret
      exact ⟨_, rfl, HO.out, HB.out⟩
set_option maxRecDepth 100000 in
theorem refFind8_any (w : World) (A : Option Addr) (c n : Nat) (ds : List Doc) (hn : ds.length = n) (hm : n ≤ 1000000) (hr : Rds w A (docsC ds)) (id : ByteArray) :
    Calls Try.prog 41 #[.slice A n c, .string id] w fun e w' => e = .returned (.int .i64 (Sg.placeI ds id)) ∧ w = w' := by
  have HR := Lib.hid hr
  have HN := Lib.hid hn
  clear hr hn
  go_enter Try.func41, Try.ntmps41
  go_wp2
  go_loopw [5] (fun i wr => ∃ (k : Nat), i = .int .i64 (k : Int) ∧ k ≤ n ∧ Hid (∀ j, (hj : j < ds.length) → j < k → ds[j].id.toList ≠ id.toList) ∧ Hid (w = wr)) (fun i _ => n - (intOf i).toNat)
  case atStart => exact ⟨0, rfl, by omega, Lib.hid (fun j _ h => by omega), rfl⟩
  case round =>
    obtain ⟨k, rfl, hk, HF, HW⟩ := hrel
    obtain rfl := HW.out
    by_cases h1 : k < n
    · have h1i : (k : Int) < (n : Int) := by omega
      have hk' : k < ds.length := by rw [HN.out]; exact h1
      obtain ⟨a, rfl, hc0, hc1⟩ := docs_cells HR.out k hk'
      by_cases he : ds[k].id.toList = id.toList
      · have hei : (ds[k].id.toList == id.toList) = true := by simpa using he
        have HP : Hid (Sg.placeI ds id = (k : Int)) := Sg.place_at hk' he HF.out
        generalize ds[k] = d at *
        clear he
        go_wp2
        go_ret
        exact ⟨by rw [HP.out]; rfl, rfl⟩
      · have hei : (ds[k].id.toList == id.toList) = false := by simpa using he
        have HF2 : Hid (∀ j, (hj : j < ds.length) → j < k + 1 → ds[j].id.toList ≠ id.toList) := Lib.hid fun j hj h => by
          by_cases e : j = k
          · subst e; exact he
          · exact HF.out j hj (by omega)
        generalize ds[k] = d at *
        clear he
        go_wp2
        go_roundw
        case rel => exact ⟨k + 1, by go_num, by omega, HF2, by first | trivial | rfl⟩
        case measure => first | (simp [intOf]; done) | (simp [intOf]; omega)
    · obtain rfl : k = n := by omega
      have h1i : ¬ (k : Int) < (k : Int) := by omega
      have HP : Hid (Sg.placeI ds id = -1) := Sg.place_no (fun j hj => HF.out j hj (by have := HN.out; omega))
      go_wp2
      go_ret
      exact ⟨by rw [HP.out]; rfl, rfl⟩
end Go.Proofs.Ytjpcfpffbicpnaa
