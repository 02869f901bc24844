/- Several texts in one. Documents, plain: what may be, their symbols, where a place of all of them lies. | The walks of segment: names, symbols, sizes. | The walks that check documents. | The walk of segment.Check. | append to a row of the call's own, with where the new row lies. -/
import Derived.Test.YtjpcfpffbicpnaaPackBas
import Derived.Test.YtjpcfpffbicpnaaProg
import Derived.Lib.Builder
import Derived.OneCell
import Derived.Maps.AppendAt
section
set_option linter.unusedVariables false
set_option linter.unusedSimpArgs false
namespace Lec
open Go Go.RowKit
structure Doc where
  id : ByteArray
  text : ByteArray
def docC (d : Doc) : List Value := [.string d.id, .string d.text]
def docsC (ds : List Doc) : List Value := ds.flatMap docC
theorem docsC_len (ds : List Doc) : (docsC ds).length = ds.length * 2 := by
  induction ds with
  | nil => rfl
  | cons d ds ih => rw [show docsC (d :: ds) = docC d ++ docsC ds from rfl, List.length_append, ih]; simp [docC]; omega
theorem docsC_app (xs ys : List Doc) : docsC (xs ++ ys) = docsC xs ++ docsC ys := by simp [docsC]
theorem docsC_at : ∀ (ds : List Doc) (i j : Nat) (h : i < ds.length), j < 2 → (docsC ds)[i * 2 + j]? = (docC ds[i])[j]?
  | d :: ds, 0, j, _, hj => by
    show (docC d ++ docsC ds)[0 * 2 + j]? = _
    rw [List.getElem?_append_left (by simp [docC]; omega)]; simp
  | d :: ds, i + 1, j, h, hj => by
    show (docC d ++ docsC ds)[(i + 1) * 2 + j]? = _
    rw [List.getElem?_append_right (by simp [docC]; omega)]
    have := docsC_at ds i j (by simpa using h) hj
    rw [show (i + 1) * 2 + j - (docC d).length = i * 2 + j by simp [docC]; omega, this]
    rfl
theorem docs_cells {w : World} {A : Option Addr} {ds : List Doc} (h : Rds w A (docsC ds)) (i : Nat) (hi : i < ds.length) :
    ∃ a, A = some a ∧ w.cell? (a.add (i * 2)) = some (.string ds[i].id) ∧ w.cell? ⟨(a.add (i * 2)).block, (a.add (i * 2)).off + 1, none⟩ = some (.string ds[i].text) := by
  obtain ⟨a, e0, c0⟩ := h (i * 2 + 0) _ (by rw [docsC_at ds i 0 hi (by omega)]; rfl)
  obtain ⟨a1, e1, c1⟩ := h (i * 2 + 1) _ (by rw [docsC_at ds i 1 hi (by omega)]; rfl)
  obtain rfl : a = a1 := by rw [e0] at e1; exact Option.some.inj e1
  exact ⟨a, e0, c0, by rw [← add_fld _ _ _ (by omega)]; exact c1⟩
namespace Sg
def nameB (id : ByteArray) : Bool := !id.toList.isEmpty && decide ((id.size : Int) ≤ 64)
def ltB (a b : ByteArray) : Bool := Op.bytesLess a.toList b.toList
/-- May the i-th stand there? -/
def formAt (ds : List Doc) (i : Nat) : Bool := match ds[i]? with
  | none => true
  | some d => nameB d.id && (match i with
    | 0 => true
    | j + 1 => match ds[j]? with
      | none => true
      | some e => ltB e.id d.id)
def formB (ds : List Doc) : Bool := (List.range ds.length).all (formAt ds)
def sizeD (ds : List Doc) : Nat := (ds.map fun d => d.text.size).sum
def muchB (ds : List Doc) : Bool := decide (64 < ds.length) || ds.any (fun d => decide (2048 < d.text.size)) || decide (16384 < sizeD ds)
def chkD (ds : List Doc) : Nat := if formB ds then (if muchB ds then 2 else 0) else 1
theorem sizeD_snoc (ds : List Doc) (d : Doc) : sizeD (ds ++ [d]) = sizeD ds + d.text.size := by simp [sizeD]
theorem sizeD_take {ds : List Doc} {i : Nat} (h : i < ds.length) : sizeD (ds.take (i + 1)) = sizeD (ds.take i) + ds[i].text.size := by
  rw [List.take_succ_eq_append_getElem h, sizeD_snoc]
theorem sizeD_mono (ds : List Doc) (i : Nat) : sizeD (ds.take i) ≤ sizeD ds := by
  have h : ds = ds.take i ++ ds.drop i := (List.take_append_drop i ds).symm
  unfold sizeD
  conv => rhs; rw [h]
  rw [List.map_append, List.sum_append]
  omega
theorem form_no {ds : List Doc} {i : Nat} (hi : i < ds.length) (h : formAt ds i = false) : chkD ds = 1 := by
  unfold chkD
  rw [if_neg]
  intro hf
  have := List.all_eq_true.1 hf i (List.mem_range.2 hi)
  rw [h] at this
  cases this
theorem form_all {ds : List Doc} (h : ∀ i, i < ds.length → formAt ds i = true) : formB ds = true := List.all_eq_true.2 (fun i hi => h i (List.mem_range.1 hi))
/-- A text's symbols; those of all texts, with what stands behind each. -/
def bytesN (t : ByteArray) : List Nat := t.toList.map (fun c => c.toNat + 1)
def symD (ds : List Doc) : List Nat := ds.flatMap (fun d => bytesN d.text ++ [0])
def lensD (ds : List Doc) : List Int := ds.map (fun d => (d.text.size : Int))
theorem bytesN_lt (t : ByteArray) : ∀ z ∈ bytesN t, 1 ≤ z ∧ z < 257 := fun z hz => by
  unfold bytesN at hz
  obtain ⟨c, _, rfl⟩ := List.mem_map.1 hz
  have := c.toNat_lt
  omega
theorem symD_lt (ds : List Doc) : ∀ z ∈ symD ds, z < 257 := fun z hz => by
  unfold symD at hz
  obtain ⟨d, _, h⟩ := List.mem_flatMap.1 hz
  rcases List.mem_append.1 h with h | h
  · exact (bytesN_lt _ z h).2
  · simp at h; omega
theorem symD_app (xs ys : List Doc) : symD (xs ++ ys) = symD xs ++ symD ys := by simp [symD]
theorem lensD_len (ds : List Doc) : (lensD ds).length = ds.length := by simp [lensD]
end Sg
end Lec

end
section
set_option linter.unusedVariables false
set_option linter.unusedSimpArgs false
namespace Go.Proofs.Ytjpcfpffbicpnaa
open Go.RowKit Lec

theorem Name_any (w : World) (s : ByteArray) :
    Calls Try.prog 72 #[.string s] w fun e w' => e = .returned (.bool (Sg.nameB s)) ∧ w = w' := by
  go_enter Try.func72, Try.ntmps72
  go_wp2
  · rename_i he
    go_ret
    exact ⟨by unfold Sg.nameB; rw [he]; rfl, rfl⟩
  · rename_i he
    go_ret
    exact ⟨rfl, rfl⟩

set_option maxRecDepth 100000 in
set_option maxHeartbeats 1000000 in
theorem sSize_any (w : World) (A : Option Addr) (c n : Nat) (ds : List Doc) (hn : ds.length = n) (hm : n ≤ 4611686018427387903) (hz : Sg.sizeD ds ≤ 9223372036854775807) (hr : Rds w A (docsC ds)) :
    Calls Try.prog 39 #[.slice A n c] w fun e w' => e = .returned (.int .i64 (Sg.sizeD ds)) ∧ w = w' := by
  have HR := Lib.hid hr
  have HN := Lib.hid hn
  have HZ := Lib.hid hz
  clear hr hn hz
  go_enter Try.func39, Try.ntmps39
  go_wp2
  go_loopw [3, 4] (fun z i wr => ∃ (k : Nat) (y : Nat), i = .int .i64 (k : Int) ∧ z = .int .i64 (y : Int) ∧ k ≤ n ∧ Hid (y = Sg.sizeD (ds.take k)) ∧ Hid (wr = w)) (fun _ i _ => n - (intOf i).toNat)
  case atStart =>
    exact ⟨0, 0, rfl, rfl, by omega, rfl, rfl⟩
  case round =>
    obtain ⟨k, y, rfl, rfl, hk, HY, HW⟩ := hrel
    obtain rfl := HW.out
    by_cases h1 : k < n
    · have h1i : (k : Int) < (n : Int) := by omega
      have hk' : k < ds.length := by rw [HN.out]; exact h1
      obtain ⟨a, rfl, hc0, hc1⟩ := docs_cells HR.out k hk'
      have hy2 : y + ds[k].text.size ≤ 9223372036854775807 := by
        rw [HY.out, ← Sg.sizeD_take hk']; exact Nat.le_trans (Sg.sizeD_mono _ _) HZ.out
      have HY2 : Hid (y + ds[k].text.size = Sg.sizeD (ds.take (k + 1))) := by show _ = _; rw [HY.out, Sg.sizeD_take hk']
      generalize ds[k] = d at *
      go_wp2
      go_roundw
      case rel =>
        exact ⟨k + 1, y + d.text.size, by go_num, by go_num, by omega, HY2, trivial⟩
      case measure => simp [intOf]; omega
    · obtain rfl : k = n := by omega
      have h1i : ¬ (k : Int) < (k : Int) := by omega
      have HE : Hid (y = Sg.sizeD ds) := by show _ = _; rw [HY.out, List.take_of_length_le (by rw [HN.out]; exact Nat.le_refl _)]
      go_wp2
      go_ret
      exact ⟨by rw [← HE.out]; rfl, rfl⟩
theorem info_intS : (Try.prog.info? 3).map (fun i => (i.zero, i.size, i.bytes)) = some (some (.int .i64 0), 1, 8) := by kernel_rfl
theorem bytes_get (s : ByteArray) (k : Nat) (h : k < s.size) : ∃ c : UInt8, s[k] = c ∧ s.toList[k]? = some c := by
  refine ⟨s[k], rfl, ?_⟩
  rw [Go.ByteArray.toList_eq]
  simp [h]
  rfl
set_option maxRecDepth 100000 in
set_option maxHeartbeats 1000000 in
theorem symbols_any (w : World) (s : ByteArray) (hs : s.size ≤ 1000000) :
    Calls Try.prog 48 #[.string s] w fun e w' => ∃ v, e = .returned v ∧ w'.ownsRow w.heap.size 3 1 v (Sg.bytesN s).length (natsC (Sg.bytesN s)) ∧ Below w.heap.size w w' := by
  go_enter Try.func48, Try.ntmps48
  go_wp2
  go_loopw [2, 6] (fun v i wx => ∃ k : Nat, k ≤ s.size ∧ i = .int .i64 (k : Int) ∧ Hid (wx.ownsRow w.heap.size 3 1 v ((Sg.bytesN s).take k).length (natsC ((Sg.bytesN s).take k))) ∧ Hid (Below w.heap.size w wx)) (fun _ i _ => s.size - (intOf i).toNat)
  case atStart => exact ⟨0, by omega, rfl, World.ownsRow_nil _ _ _ _, Lib.hid (Below.refl _ _)⟩
  case round =>
    obtain ⟨k, hk, rfl, HO, HB⟩ := hrel
    by_cases h8 : k < s.size
    · have h8i : (k : Int) < (s.size : Int) := by omega
      obtain ⟨c, hc1, hc2⟩ := bytes_get s k h8
      have hlt := c.toNat_lt
      have HT : Hid ((Sg.bytesN s).take (k + 1) = (Sg.bytesN s).take k ++ [c.toNat + 1]) := by
        show _ = _
        have : (Sg.bytesN s)[k]? = some (c.toNat + 1) := by unfold Sg.bytesN; rw [List.getElem?_map, hc2]; rfl
        obtain ⟨h, e⟩ := List.getElem?_eq_some_iff.1 this
        rw [List.take_succ_eq_append_getElem h, e]
      have hll : ((Sg.bytesN s).take k).length ≤ k := by rw [List.length_take]; omega
      have hsz := HB.out.size
      obtain ⟨v, rfl⟩ : ∃ z, z = u2 := ⟨_, rfl⟩
      generalize (Sg.bytesN s).take k = X at *
      go_wp2_with (at_builtin; refine wp_app1 (w0 := wr) rfl rfl _ _ 57 rfl w.heap.size 3 (.int .i64 0) 1 8 Try.underlying57 info_intS rfl (by decide) (by decide) _ _ _ rfl HO.out rfl rfl (one_cell1 rfl) (by omega) hsz ?_; intro v' w2 hown hg1 hb1)
      go_roundw
      case rel =>
        refine ⟨k + 1, by omega, by go_num, ?_, Lib.hid (HB.out.trans hb1)⟩
        show World.ownsRow _ _ _ _ _ _ _
        rw [HT.out, List.length_append]; unfold natsC at hown ⊢; rw [List.map_append]; exact hown
      case measure => simp [intOf]; omega
    · obtain rfl : k = s.size := by omega
      have h8i : ¬ (s.size : Int) < (s.size : Int) := by omega
      have HE : Hid ((Sg.bytesN s).take s.size = Sg.bytesN s) := by
        show _ = _
        refine List.take_of_length_le ?_
        unfold Sg.bytesN; rw [List.length_map, Go.ByteArray.toList_eq]; cases s; exact Nat.le_refl _
      rw [HE.out] at HO
      go_wp2
      go_ret
      exact ⟨_, rfl, HO.out, HB.out⟩
end Go.Proofs.Ytjpcfpffbicpnaa

end
section
set_option linter.unusedVariables false
set_option linter.unusedSimpArgs false
namespace Lec.Sg
theorem formAt_zero {ds : List Doc} (h : 0 < ds.length) : formAt ds 0 = nameB ds[0].id := by
  unfold formAt; rw [List.getElem?_eq_getElem h]; simp
theorem formAt_pos {ds : List Doc} {k : Nat} (h : k < ds.length) (hk : 0 < k) : formAt ds k = (nameB ds[k].id && ltB (ds[k - 1]'(by omega)).id ds[k].id) := by
  obtain ⟨j, rfl⟩ : ∃ j, k = j + 1 := ⟨k - 1, by omega⟩
  unfold formAt; rw [List.getElem?_eq_getElem h]; simp [List.getElem?_eq_getElem (show j < ds.length by omega)]
theorem formAt_none {ds : List Doc} {k : Nat} (h : k < ds.length) (hk : ¬ 0 < k) : formAt ds k = nameB ds[k].id := by
  obtain rfl : k = 0 := by omega
  exact formAt_zero h
theorem chk_many {ds : List Doc} (hf : formB ds = true) (h : 64 < ds.length) : chkD ds = 2 := by
  unfold chkD muchB; rw [hf, decide_eq_true h]; simp
theorem chk_long {ds : List Doc} (hf : formB ds = true) {i : Nat} (hi : i < ds.length) (h : 2048 < ds[i].text.size) : chkD ds = 2 := by
  unfold chkD muchB
  rw [hf, List.any_eq_true.2 ⟨ds[i], List.getElem_mem hi, decide_eq_true h⟩]; simp
theorem chk_big {ds : List Doc} (hf : formB ds = true) (h : 16384 < sizeD ds) : chkD ds = 2 := by
  unfold chkD muchB; rw [hf, decide_eq_true h]; simp
theorem chk_ok {ds : List Doc} (hf : formB ds = true) (h1 : ¬ 64 < ds.length) (h2 : ∀ i, (hi : i < ds.length) → ¬ 2048 < ds[i].text.size) (h3 : ¬ 16384 < sizeD ds) : chkD ds = 0 := by
  unfold chkD muchB
  rw [hf, decide_eq_false h1, decide_eq_false h3]
  have : (ds.any fun d => decide (2048 < d.text.size)) = false := by
    rw [List.any_eq_false]
    intro d hd
    obtain ⟨i, hi, rfl⟩ := List.getElem_of_mem hd
    simpa using h2 i hi
  rw [this]; rfl
end Lec.Sg
namespace Go.Proofs.Ytjpcfpffbicpnaa
open Go.RowKit Lec
set_option maxRecDepth 100000 in
set_option maxHeartbeats 1000000 in
theorem sDocs_any (w : World) (A : Option Addr) (c n : Nat) (ds : List Doc) (hn : ds.length = n) (hm : n ≤ 4611686018427387903) (hz : Sg.sizeD ds ≤ 9223372036854775807) (hr : Rds w A (docsC ds)) :
    Calls Try.prog 13 #[.slice A n c] w fun e w' => e = .returned (.int .i64 (Sg.chkD ds)) ∧ ∃ q, w.drewN q = w' := by
  have HR := Lib.hid hr
  have HN := Lib.hid hn
  have HZ := Lib.hid hz
  clear hr hn hz
  go_enter Try.func13, Try.ntmps13
  go_wp2
  go_loopw [3] (fun i wr => ∃ (k q : Nat), i = .int .i64 (k : Int) ∧ k ≤ n ∧ Hid (∀ i, i < k → Sg.formAt ds i = true) ∧ Hid (w.drewN q = wr)) (fun i _ => n - (intOf i).toNat)
  case atStart =>
    exact ⟨0, 0, rfl, by omega, fun i hi => by omega, rfl⟩
  case round =>
    obtain ⟨k, q, rfl, hk, HF, HW⟩ := hrel
    obtain rfl := HW.out
    by_cases h1 : k < n
    · have h1i : (k : Int) < (n : Int) := by omega
      have hk' : k < ds.length := by rw [HN.out]; exact h1
      obtain ⟨a, rfl, hc0, hc1⟩ := docs_cells HR.out k hk'
      have HNO : Hid (Sg.formAt ds k = false → Sg.chkD ds = 1) := fun h => Sg.form_no hk' h
      by_cases hk0 : 0 < k
      · have hk0i : (0 : Int) < (k : Int) := by omega
        obtain ⟨a2, e2, hd0, hd1⟩ := docs_cells HR.out (k - 1) (by omega)
        obtain rfl := Option.some.inj e2
        have HFA := Lib.hid (Sg.formAt_pos hk' hk0)
        generalize ds[k - 1] = dj at *
        generalize ds[k] = d at *
        unfold Sg.nameB Sg.ltB at HFA
        go_wp2
        have v3 : IntKind.i64.wrap ((k : Int) - 1) = (k : Int) - 1 := wrap_idB (by omega)
        have n0 : (0 : Int) ≤ (k : Int) := by omega
        have n1 : (0 : Int) ≤ (k : Int) - 1 := by omega
        have n2 : (k : Int) - 1 < (n : Int) := by omega
        have hkt : ((k : Int) - 1).toNat = k - 1 := by omega
        by_cases he : d.id.toList = []
        · have HE1 : Hid (Sg.formAt ds k = false) := by show _ = _; rw [HFA.out, he]; rfl
          go_quiet (fail)
          go_wp2
          go_ret
          exact ⟨by rw [HNO.out HE1.out]; rfl, _, by first | rfl | rw [World.drewN_drewN]⟩
        · have hei : ¬ d.id.toList.isEmpty = true := by rw [List.isEmpty_iff]; exact he
          by_cases hl : 64 < d.id.size
          · have hli : (64 : Int) < (d.id.size : Int) := by omega
            have HE1 : Hid (Sg.formAt ds k = false) := by show _ = _; rw [HFA.out, decide_eq_false (by omega : ¬ (d.id.size : Int) ≤ 64), Bool.and_false]; rfl
            go_quiet (fail)
            go_wp2
            go_ret
            exact ⟨by rw [HNO.out HE1.out]; rfl, _, by first | rfl | rw [World.drewN_drewN]⟩
          · have hli : ¬ (64 : Int) < (d.id.size : Int) := by omega
            have HL2 : Hid ((d.id.size : Int) ≤ 64) := by show _ ≤ _; omega
            go_quiet (fail)
            generalize Op.bytesLess dj.id.toList d.id.toList = t at *
            cases t
            case true =>
              have HE1 : Hid (Sg.formAt ds k = true) := by
                show _ = _; rw [HFA.out, decide_eq_true HL2.out]; simp [he]
              have HF2 : Hid (∀ i, i < k + 1 → Sg.formAt ds i = true) := fun i hi => by
                by_cases e : i = k
                · rw [e]; exact HE1.out
                · exact HF.out i (by omega)
              go_wp2
              go_roundw
              case rel =>
                exact ⟨k + 1, _, by go_num, by omega, HF2, by first | rfl | (show _ = _; rw [World.drewN_drewN])⟩
              case measure => first | (simp [intOf]; done) | (simp [intOf]; omega)
            case false =>
              have HE1 : Hid (Sg.formAt ds k = false) := by
                show _ = _; rw [HFA.out, Bool.and_false]
              go_wp2
              go_ret
              exact ⟨by rw [HNO.out HE1.out]; rfl, _, by first | rfl | rw [World.drewN_drewN]⟩
      · have hk0i : ¬ (0 : Int) < (k : Int) := by omega
        have HFA := Lib.hid (Sg.formAt_none hk' hk0)
        generalize ds[k] = d at *
        unfold Sg.nameB at HFA
        go_wp2
        have n0 : (0 : Int) ≤ (k : Int) := by omega
        by_cases he : d.id.toList = []
        · have HE1 : Hid (Sg.formAt ds k = false) := by show _ = _; rw [HFA.out, he]; rfl
          go_quiet (fail)
          go_wp2
          go_ret
          exact ⟨by rw [HNO.out HE1.out]; rfl, _, by first | rfl | rw [World.drewN_drewN]⟩
        · have hei : ¬ d.id.toList.isEmpty = true := by rw [List.isEmpty_iff]; exact he
          by_cases hl : 64 < d.id.size
          · have hli : (64 : Int) < (d.id.size : Int) := by omega
            have HE1 : Hid (Sg.formAt ds k = false) := by show _ = _; rw [HFA.out, decide_eq_false (by omega : ¬ (d.id.size : Int) ≤ 64), Bool.and_false]
            go_quiet (fail)
            go_wp2
            go_ret
            exact ⟨by rw [HNO.out HE1.out]; rfl, _, by first | rfl | rw [World.drewN_drewN]⟩
          · have hli : ¬ (64 : Int) < (d.id.size : Int) := by omega
            have HL2 : Hid ((d.id.size : Int) ≤ 64) := by show _ ≤ _; omega
            have HE1 : Hid (Sg.formAt ds k = true) := by
              show _ = _; rw [HFA.out, decide_eq_true HL2.out]; simp [he]
            have HF2 : Hid (∀ i, i < k + 1 → Sg.formAt ds i = true) := fun i hi => by
              by_cases e : i = k
              · rw [e]; exact HE1.out
              · exact HF.out i (by omega)
            go_quiet (fail)
            go_wp2
            go_roundw
            case rel =>
              exact ⟨k + 1, _, by go_num, by omega, HF2, by first | rfl | (show _ = _; rw [World.drewN_drewN])⟩
            case measure => first | (simp [intOf]; done) | (simp [intOf]; omega)
    · obtain rfl : k = n := by omega
      have h1i : ¬ (k : Int) < (k : Int) := by omega
      have HFB : Hid (Sg.formB ds = true) := Sg.form_all (fun i hi => HF.out i (by have := HN.out; omega))
      clear HF
      by_cases h64 : 64 < k
      · have h64i : (64 : Int) < (k : Int) := by omega
        have HE : Hid (Sg.chkD ds = 2) := Sg.chk_many HFB.out (by rw [HN.out]; exact h64)
        go_wp2
        go_ret
        exact ⟨by rw [HE.out]; rfl, _, rfl⟩
      · have h64i : ¬ (64 : Int) < (k : Int) := by omega
        go_wp2
        go_loopw [4] (fun i wr => ∃ (j : Nat), i = .int .i64 (j : Int) ∧ j ≤ k ∧ Hid (∀ i, i < j → (hi : i < ds.length) → ¬ 2048 < ds[i].text.size) ∧ Hid (w.drewN q = wr)) (fun i _ => k - (intOf i).toNat)
        case atStart =>
          exact ⟨0, rfl, by omega, fun i hi => by omega, rfl⟩
        case round =>
          obtain ⟨j, rfl, hj, HS, HW2⟩ := hrel
          obtain rfl := HW2.out
          by_cases h2 : j < k
          · have h2i : (j : Int) < (k : Int) := by omega
            have hj' : j < ds.length := by rw [HN.out]; exact h2
            obtain ⟨a, rfl, hc0, hc1⟩ := docs_cells (HR.out.ext (drawn_below w q) (Nat.le_refl _)) j hj'
            have HL := Lib.hid (fun h => Sg.chk_long HFB.out hj' h)
            have HSN : Hid (¬ 2048 < ds[j].text.size → ∀ i, i < j + 1 → (hi : i < ds.length) → ¬ 2048 < ds[i].text.size) := fun h i hi hl => by
              by_cases e : i = j
              · subst e; exact h
              · exact HS.out i (by omega) hl
            generalize ds[j] = d at *
            by_cases hb : 2048 < d.text.size
            · have hbi : (2048 : Int) < (d.text.size : Int) := by omega
              have HE := Lib.hid (HL.out hb)
              go_wp2
              go_ret
              exact ⟨by rw [HE.out]; rfl, _, rfl⟩
            · have hbi : ¬ (2048 : Int) < (d.text.size : Int) := by omega
              have HS2 := Lib.hid (HSN.out hb)
              go_wp2
              go_roundw
              case rel =>
                exact ⟨j + 1, by go_num, by omega, HS2, by first | trivial | rfl⟩
              case measure => first | (simp [intOf]; done) | (simp [intOf]; omega)
          · obtain rfl : j = k := by omega
            have h2i : ¬ (j : Int) < (j : Int) := by omega
            have HSA : Hid (∀ i, (hi : i < ds.length) → ¬ 2048 < ds[i].text.size) := fun i hi => HS.out i (by have := HN.out; omega) hi
            have HC := Lib.hid (sSize_any (w.drewN q) A c j ds HN.out hm HZ.out (HR.out.ext (drawn_below w q) (Nat.le_refl _)))
            by_cases hb : 16384 < Sg.sizeD ds
            · have hbi : (16384 : Int) < (Sg.sizeD ds : Int) := by omega
              have HE : Hid (Sg.chkD ds = 2) := Sg.chk_big HFB.out hb
              go_wp2_with fail
              refine HC.out.mono ?_
              rintro e wq ⟨rfl, rfl⟩
              go_wp2
              go_ret
              exact ⟨by rw [HE.out]; rfl, _, rfl⟩
            · have hbi : ¬ (16384 : Int) < (Sg.sizeD ds : Int) := by omega
              have HE : Hid (Sg.chkD ds = 0) := Sg.chk_ok HFB.out (by rw [HN.out]; exact h64) HSA.out hb
              go_wp2_with fail
              refine HC.out.mono ?_
              rintro e wq ⟨rfl, rfl⟩
              go_wp2
              go_ret
              exact ⟨by rw [HE.out]; rfl, _, rfl⟩
end Go.Proofs.Ytjpcfpffbicpnaa

end
section
set_option linter.unusedVariables false
set_option linter.unusedSimpArgs false
namespace Go.Proofs.Ytjpcfpffbicpnaa
open Go.RowKit Lec
set_option maxRecDepth 100000 in
set_option maxHeartbeats 1000000 in
theorem Check_any (w : World) (A : Option Addr) (c n : Nat) (ds : List Doc) (hn : ds.length = n) (hm : n ≤ 4611686018427387903) (hz : Sg.sizeD ds ≤ 1000000000) (hr : Rds w A (docsC ds)) :
    Calls Try.prog 50 #[.slice A n c] w fun e w' => e = .returned (.int .i64 (Sg.chkD ds)) ∧ Below w.heap.size w w' := by
  have HR := Lib.hid hr
  have HN := Lib.hid hn
  have HZ := Lib.hid hz
  have hdd : decide ((64 : Int) < (n : Int)) = decide (64 < n) := by congr 1; exact propext (by omega)
  clear hr hn hz
  go_enter Try.func50, Try.ntmps50
  go_wp2
  go_loopw [3, 4, 12] (fun much all i wr => ∃ (k al : Nat) (mu : Bool), i = .int .i64 (k : Int) ∧ all = .int .i64 (al : Int) ∧ much = .bool mu ∧ k ≤ n ∧ al ≤ 18432 ∧ Hid (∀ i, i < k → Sg.formAt ds i = true) ∧
      Hid (mu = false → al = Sg.sizeD (ds.take k) ∧ n ≤ 64 ∧ ∀ i, i < k → (hi : i < ds.length) → ¬ 2048 < ds[i].text.size) ∧
      Hid (mu = true → 64 < ds.length ∨ (∃ i, ∃ hi : i < ds.length, 2048 < ds[i].text.size) ∨ 16384 < Sg.sizeD ds) ∧ Hid (Below w.heap.size w wr)) (fun _ _ i _ => n - (intOf i).toNat)
  case atStart =>
    refine ⟨0, 0, decide (64 < n), rfl, rfl, by first | rfl | rw [hdd], by omega, by omega, fun i hi => by omega, ?_, ?_, Lib.hid (Below.refl _ _)⟩
    · show _ → _; intro h; exact ⟨rfl, by simpa using h, fun i hi => by omega⟩
    · show _ → _; intro h; exact .inl (by rw [HN.out]; simpa using h)
  case round =>
    obtain ⟨k, al, mu, rfl, rfl, rfl, hk, hal, HF, HM, HT, HX⟩ := hrel
    by_cases h1 : k < n
    · have h1i : (k : Int) < (n : Int) := by omega
      have hk' : k < ds.length := by rw [HN.out]; exact h1
      have HRq := Lib.hid (HR.out.ext HX.out (Nat.le_refl _))
      obtain ⟨a, rfl, hc0, hc1⟩ := docs_cells HRq.out k hk'
      have HNO : Hid (Sg.formAt ds k = false → Sg.chkD ds = 1) := fun h => Sg.form_no hk' h
      have HD := Lib.hid (Sg.sizeD_take hk')
      have HMO := Lib.hid (Sg.sizeD_mono ds k)
      have HLG : Hid (2048 < ds[k].text.size → ∃ i, ∃ hi : i < ds.length, 2048 < ds[i].text.size) := fun h => ⟨k, hk', h⟩
      have HSN : Hid (¬ 2048 < ds[k].text.size → (∀ i, i < k → (hi : i < ds.length) → ¬ 2048 < ds[i].text.size) → ∀ i, i < k + 1 → (hi : i < ds.length) → ¬ 2048 < ds[i].text.size) := fun h hp i hi hl => by
        by_cases e : i = k
        · subst e; exact h
        · exact hp i (by omega) hl
      have HFN : Hid (Sg.formAt ds k = true → ∀ i, i < k + 1 → Sg.formAt ds i = true) := fun h i hi => by
        by_cases e : i = k
        · rw [e]; exact h
        · exact HF.out i (by omega)
      by_cases hk0 : 0 < k
      · have hk0i : (0 : Int) < (k : Int) := by omega
        obtain ⟨a2, e2, hd0, hd1⟩ := docs_cells HRq.out (k - 1) (by omega)
        obtain rfl := Option.some.inj e2
        have HFA := Lib.hid (Sg.formAt_pos hk' hk0)
        generalize ds[k - 1] = dj at *
        generalize ds[k] = d at *
        unfold Sg.ltB at HFA
        go_wp2
        obtain ⟨w1, hw1⟩ : ∃ z, z = wr.alloc (Obj.cells #[Value.string d.id, Value.string d.text] 52) := ⟨_, rfl⟩
        have hB1 : Blk w1 wr.heap.size 52 [.string d.id, .string d.text] := by rw [hw1]; exact Blk.new _ _ _
        have hX1 : Below w.heap.size w w1 := by rw [hw1]; exact HX.out.alloc HX.out.size _
        have hXr : Below wr.heap.size wr w1 := by rw [hw1]; exact (Below.refl _ _).alloc (Nat.le_refl _) _
        have ha0 := cell_ext hXr (Nat.le_refl _) hc0
        have hb0 : w1.cell? ⟨wr.heap.size, 0, none⟩ = some (.string d.id) := hB1.cell rfl
        have hb1 : w1.cell? ⟨wr.heap.size, 1, none⟩ = some (.string d.text) := hB1.cell rfl
        have hj0 := cell_ext hXr (Nat.le_refl _) hd0
        rw [← hw1]
        have HX1 := Lib.hid hX1
        clear hX1 hXr hB1 hw1 hc0 hc1 HRq HX
        clear hd0 hd1
        have v3 : IntKind.i64.wrap ((k : Int) - 1) = (k : Int) - 1 := wrap_idB (by omega)
        have n0 : (0 : Int) ≤ (k : Int) := by omega
        have n1 : (0 : Int) ≤ (k : Int) - 1 := by omega
        have n2 : (k : Int) - 1 < (n : Int) := by omega
        have hkt : ((k : Int) - 1).toNat = k - 1 := by omega
        have HNM : Hid (∀ m, Calls Try.prog 72 #[.string d.id] (w1.drewN m) fun e w'' => e = .returned (.bool (Sg.nameB d.id)) ∧ ∃ m, w'' = w1.drewN m) := fun m =>
          Calls.quiet_of_same ((Name_any (w1.drewN m) d.id).mono (fun e w' h => ⟨h.1, h.2.symm⟩))
        generalize Sg.nameB d.id = nb at HNM HFA
        cases nb
        case false =>
          have HE1 : Hid (Sg.formAt ds k = false) := by show _ = _; rw [HFA.out]; rfl
          go_quiet ((go_at_call 72; exact HNM.out _))
          go_wp2
          go_ret
          exact ⟨by rw [HNO.out HE1.out]; rfl, by first | exact HX1.out | exact HX1.out.trans ((drawn_below w1 _).mono HX1.out.size)⟩
        case true =>
          go_quiet ((go_at_call 72; exact HNM.out _))
          generalize Op.bytesLess dj.id.toList d.id.toList = t at *
          cases t
          case false =>
            have HE1 : Hid (Sg.formAt ds k = false) := by show _ = _; rw [HFA.out]; rfl
            go_wp2
            go_ret
            exact ⟨by rw [HNO.out HE1.out]; rfl, by first | exact HX1.out | exact HX1.out.trans ((drawn_below w1 _).mono HX1.out.size)⟩
          case true =>
            have HE1 : Hid (Sg.formAt ds k = true) := by show _ = _; rw [HFA.out]; rfl
            have HF2 := Lib.hid (HFN.out HE1.out)
            cases mu
            case true =>
              go_wp2
              go_roundw
              case rel =>
                exact ⟨k + 1, al, true, by go_num, by go_num, rfl, by omega, by omega, HF2, (fun h => by cases h), HT, by first | exact HX1 | exact Lib.hid (HX1.out.trans ((drawn_below w1 _).mono HX1.out.size))⟩
              case measure => first | (simp [intOf]; done) | (simp [intOf]; omega)
            case false =>
              have HM1 := Lib.hid (HM.out rfl)
              clear HM HT
              by_cases hb : 2048 < d.text.size
              · have hbi : (2048 : Int) < (d.text.size : Int) := by omega
                go_wp2
                go_roundw
                case rel =>
                  exact ⟨k + 1, al, true, by go_num, by go_num, rfl, by omega, by omega, HF2, (fun h => by cases h), (fun _ => .inr (.inl (HLG.out hb))), by first | exact HX1 | exact Lib.hid (HX1.out.trans ((drawn_below w1 _).mono HX1.out.size))⟩
                case measure => first | (simp [intOf]; done) | (simp [intOf]; omega)
              · have hbi : ¬ (2048 : Int) < (d.text.size : Int) := by omega
                by_cases hg : 16384 < al
                · have hgi : (16384 : Int) < (al : Int) := by omega
                  have HG : Hid (16384 < Sg.sizeD ds) := Nat.lt_of_lt_of_le (by rw [← HM1.out.1]; exact hg) HMO.out
                  go_wp2
                  go_roundw
                  case rel =>
                    exact ⟨k + 1, al, true, by go_num, by go_num, rfl, by omega, by omega, HF2, (fun h => by cases h), (fun _ => .inr (.inr HG.out)), by first | exact HX1 | exact Lib.hid (HX1.out.trans ((drawn_below w1 _).mono HX1.out.size))⟩
                  case measure => first | (simp [intOf]; done) | (simp [intOf]; omega)
                · have hgi : ¬ (16384 : Int) < (al : Int) := by omega
                  go_wp2
                  go_roundw
                  case rel =>
                    exact ⟨k + 1, al + d.text.size, false, by go_num, by go_num, rfl, by omega, by omega, HF2, (fun _ => ⟨by rw [HM1.out.1]; exact HD.out.symm, HM1.out.2.1, HSN.out hb HM1.out.2.2⟩), (fun h => by cases h), by first | exact HX1 | exact Lib.hid (HX1.out.trans ((drawn_below w1 _).mono HX1.out.size))⟩
                  case measure => first | (simp [intOf]; done) | (simp [intOf]; omega)
      · have hk0i : ¬ (0 : Int) < (k : Int) := by omega
        have HFA := Lib.hid (Sg.formAt_none hk' hk0)
        generalize ds[k] = d at *
        go_wp2
        obtain ⟨w1, hw1⟩ : ∃ z, z = wr.alloc (Obj.cells #[Value.string d.id, Value.string d.text] 52) := ⟨_, rfl⟩
        have hB1 : Blk w1 wr.heap.size 52 [.string d.id, .string d.text] := by rw [hw1]; exact Blk.new _ _ _
        have hX1 : Below w.heap.size w w1 := by rw [hw1]; exact HX.out.alloc HX.out.size _
        have hXr : Below wr.heap.size wr w1 := by rw [hw1]; exact (Below.refl _ _).alloc (Nat.le_refl _) _
        have ha0 := cell_ext hXr (Nat.le_refl _) hc0
        have hb0 : w1.cell? ⟨wr.heap.size, 0, none⟩ = some (.string d.id) := hB1.cell rfl
        have hb1 : w1.cell? ⟨wr.heap.size, 1, none⟩ = some (.string d.text) := hB1.cell rfl
        rw [← hw1]
        have HX1 := Lib.hid hX1
        clear hX1 hXr hB1 hw1 hc0 hc1 HRq HX
        have v3 : IntKind.i64.wrap ((k : Int) - 1) = (k : Int) - 1 := wrap_idB (by omega)
        have n0 : (0 : Int) ≤ (k : Int) := by omega
        have HNM : Hid (∀ m, Calls Try.prog 72 #[.string d.id] (w1.drewN m) fun e w'' => e = .returned (.bool (Sg.nameB d.id)) ∧ ∃ m, w'' = w1.drewN m) := fun m =>
          Calls.quiet_of_same ((Name_any (w1.drewN m) d.id).mono (fun e w' h => ⟨h.1, h.2.symm⟩))
        generalize Sg.nameB d.id = nb at HNM HFA
        cases nb
        case false =>
          have HE1 : Hid (Sg.formAt ds k = false) := by show _ = _; rw [HFA.out]
          go_quiet ((go_at_call 72; exact HNM.out _))
          go_wp2
          go_ret
          exact ⟨by rw [HNO.out HE1.out]; rfl, by first | exact HX1.out | exact HX1.out.trans ((drawn_below w1 _).mono HX1.out.size)⟩
        case true =>
          have HE1 : Hid (Sg.formAt ds k = true) := by show _ = _; rw [HFA.out]
          go_quiet ((go_at_call 72; exact HNM.out _))
          have HF2 := Lib.hid (HFN.out HE1.out)
          cases mu
          case true =>
            go_wp2
            go_roundw
            case rel =>
              exact ⟨k + 1, al, true, by go_num, by go_num, rfl, by omega, by omega, HF2, (fun h => by cases h), HT, by first | exact HX1 | exact Lib.hid (HX1.out.trans ((drawn_below w1 _).mono HX1.out.size))⟩
            case measure => first | (simp [intOf]; done) | (simp [intOf]; omega)
          case false =>
            have HM1 := Lib.hid (HM.out rfl)
            clear HM HT
            by_cases hb : 2048 < d.text.size
            · have hbi : (2048 : Int) < (d.text.size : Int) := by omega
              go_wp2
              go_roundw
              case rel =>
                exact ⟨k + 1, al, true, by go_num, by go_num, rfl, by omega, by omega, HF2, (fun h => by cases h), (fun _ => .inr (.inl (HLG.out hb))), by first | exact HX1 | exact Lib.hid (HX1.out.trans ((drawn_below w1 _).mono HX1.out.size))⟩
              case measure => first | (simp [intOf]; done) | (simp [intOf]; omega)
            · have hbi : ¬ (2048 : Int) < (d.text.size : Int) := by omega
              by_cases hg : 16384 < al
              · have hgi : (16384 : Int) < (al : Int) := by omega
                have HG : Hid (16384 < Sg.sizeD ds) := Nat.lt_of_lt_of_le (by rw [← HM1.out.1]; exact hg) HMO.out
                go_wp2
                go_roundw
                case rel =>
                  exact ⟨k + 1, al, true, by go_num, by go_num, rfl, by omega, by omega, HF2, (fun h => by cases h), (fun _ => .inr (.inr HG.out)), by first | exact HX1 | exact Lib.hid (HX1.out.trans ((drawn_below w1 _).mono HX1.out.size))⟩
                case measure => first | (simp [intOf]; done) | (simp [intOf]; omega)
              · have hgi : ¬ (16384 : Int) < (al : Int) := by omega
                go_wp2
                go_roundw
                case rel =>
                  exact ⟨k + 1, al + d.text.size, false, by go_num, by go_num, rfl, by omega, by omega, HF2, (fun _ => ⟨by rw [HM1.out.1]; exact HD.out.symm, HM1.out.2.1, HSN.out hb HM1.out.2.2⟩), (fun h => by cases h), by first | exact HX1 | exact Lib.hid (HX1.out.trans ((drawn_below w1 _).mono HX1.out.size))⟩
                case measure => first | (simp [intOf]; done) | (simp [intOf]; omega)
    · obtain rfl : k = n := by omega
      have h1i : ¬ (k : Int) < (k : Int) := by omega
      have HFB : Hid (Sg.formB ds = true) := Sg.form_all (fun i hi => HF.out i (by have := HN.out; omega))
      cases mu
      case true =>
        have HE : Hid (Sg.chkD ds = 2) := by
          show _ = _
          rcases HT.out rfl with h | ⟨i, hi, h⟩ | h
          · exact Sg.chk_many HFB.out h
          · exact Sg.chk_long HFB.out hi h
          · exact Sg.chk_big HFB.out h
        go_wp2
        go_ret
        exact ⟨by rw [HE.out]; rfl, HX.out⟩
      case false =>
        have HM1 := Lib.hid (HM.out rfl)
        have HAL : Hid (al = Sg.sizeD ds) := by have := HM1.out.1; rwa [List.take_of_length_le (by rw [HN.out]; exact Nat.le_refl _)] at this
        clear HM HT
        by_cases hg : 16384 < al
        · have hgi : (16384 : Int) < (al : Int) := by omega
          have HE : Hid (Sg.chkD ds = 2) := Sg.chk_big HFB.out (by rw [← HAL.out]; exact hg)
          go_wp2
          go_ret
          exact ⟨by rw [HE.out]; rfl, HX.out⟩
        · have hgi : ¬ (16384 : Int) < (al : Int) := by omega
          have HE : Hid (Sg.chkD ds = 0) := Sg.chk_ok HFB.out (by have := HM1.out.2.1; have := HN.out; omega) (fun i hi => HM1.out.2.2 i (by have := HN.out; omega) hi) (by rw [← HAL.out]; exact hg)
          go_wp2
          go_ret
          exact ⟨by rw [HE.out]; rfl, HX.out⟩
end Go.Proofs.Ytjpcfpffbicpnaa

end
section
set_option linter.unusedVariables false
set_option linter.unusedSimpArgs false
namespace Lec
open Go Go.RowKit
section append
variable {P : Program} {w : World} {ops : Array Oper} {rest : List Oper} {o : Oper} {a : Act} {Q : Exit → Act → World → Prop}
theorem wp_appAt (hgd : o.guard = none) (s x : Operand) (t : TypeId)
    (ho : o.op = .call { callee := .builtin .append, args := #[s, x], argTypes := #[t, t] })
    (base : Nat) (e : TypeId) (z : Value) (size bytes : Nat) (ht : P.underlying t = some (.slice e)) (hinfo : (P.info? e).map (fun i => (i.zero, i.size, i.bytes)) = some (some z, size, bytes))
    (hzs : z.cells.size = size) (hsz : 0 < size) (hby : 0 < bytes)
    (v : Value) (n : Nat) (xs : List Value) (hs : a.eval s = v) (hown : w.ownsRow base e size v n xs)
    (A : Option Addr) (m c : Nat) (news : List Value) (hx : a.eval x = .slice A m c) (hA : A = none → m = 0 ∧ c = 0) (hl : news.length = m * size) (hnews : Rds w A news) (h1 : ∀ u ∈ news, u.oneCell' = true)
    (hbytes : (n + m) * bytes ≤ 140737488355328) (hbase : base ≤ w.heap.size)
    (h : ∀ v' w', w'.ownsRow base e size v' (n + m) (xs ++ news) → w.grownBy w' v.ownBlock → (v'.ownBlock = v.ownBlock ∨ v'.ownBlock = some w.heap.size) → wpList P ops Q rest (a.put o.dst v') w') : wpList P ops Q (o :: rest) a w := by
  obtain ⟨i, hi, hz0, hz1, hz2⟩ := info_parts hinfo
  have hmax : n + m ≤ maxLen := by
    have : (n + m) * 1 ≤ (n + m) * bytes := Nat.mul_le_mul_left _ hby
    simp only [maxLen]; omega
  cases A with
  | some ad =>
    refine wpList_append_own_at w hgd s x t ho base e i z size bytes ht hi hz0 hz1 hz2 hzs hsz v n xs hs hown ad m c news hx hl ?_ h1 hmax hbytes hbase (fun v' w' p q _ r => h v' w' p q r)
    intro j u hu
    obtain ⟨ad', e', hc⟩ := hnews j u hu
    rw [Option.some.inj e']; exact hc
  | none =>
    obtain ⟨rfl, rfl⟩ := hA rfl
    have hn : news = [] := List.eq_nil_of_length_eq_zero (by simpa using hl)
    subst hn
    refine wpList_plain hgd fun K hK' => ?_
    have hrun := run_append_owned_none (P := P) w base t o.type e i size ht hi v n xs hown
    unfold Oper.wp
    simp [execOp, ho, resolve, invoke, builtin, hs, hx, hrun, Result.andThen]
    exact hK' _ _ (by simpa using h v w (by simpa using hown) (World.grownBy.refl _ _) (.inl rfl))
theorem wp_app1At {w0 : World} {t' : TypeId} {cs : Array Value} (hw : w = w0.alloc (.cells cs t')) (hgd : o.guard = none) (s x : Operand) (t : TypeId)
    (ho : o.op = .call { callee := .builtin .append, args := #[s, x], argTypes := #[t, t] })
    (base : Nat) (e : TypeId) (z : Value) (size bytes : Nat) (ht : P.underlying t = some (.slice e)) (hinfo : (P.info? e).map (fun i => (i.zero, i.size, i.bytes)) = some (some z, size, bytes))
    (hzs : z.cells.size = size) (hsz : 0 < size) (hby : 0 < bytes)
    (v : Value) (n : Nat) (xs : List Value) (hs : a.eval s = v) (hown : w0.ownsRow base e size v n xs)
    (hx : a.eval x = .slice (some ⟨w0.heap.size, 0, none⟩) 1 1) (hl : cs.size = size) (h1 : ∀ u ∈ cs.toList, u.oneCell' = true)
    (hbytes : (n + 1) * bytes ≤ 140737488355328) (hbase : base ≤ w0.heap.size)
    (h : ∀ v' w', w'.ownsRow base e size v' (n + 1) (xs ++ cs.toList) → w.grownBy w' v.ownBlock → (v'.ownBlock = v.ownBlock ∨ v'.ownBlock = some w.heap.size) → Below base w0 w' → wpList P ops Q rest (a.put o.dst v') w') : wpList P ops Q (o :: rest) a w := by
  subst hw
  have hb0 : Below w0.heap.size w0 (w0.alloc (.cells cs t')) := (Below.refl _ _).alloc (Nat.le_refl _) _
  refine wp_appAt hgd s x t ho base e z size bytes ht hinfo hzs hsz hby v n xs hs (own_ext hown hb0 (Nat.le_refl _)) (some ⟨w0.heap.size, 0, none⟩) 1 1 cs.toList hx (fun e => by cases e) (by simp [hl]) ?_ h1 hbytes (by simp; omega) ?_
  · intro i u hu
    refine ⟨_, rfl, ?_⟩
    rw [Addr.add_lit, cell_of_row _ w0.heap.size _ cs t' (0, 0) (heap_alloc_new _ _)]
    simpa using hu
  · intro v' w' p q r
    refine h v' w' p q r ?_
    refine (hb0.mono hbase).grown q (by simp; omega) ?_
    intro k hk
    exact (hown.lt k hk).1
end append
/-- append in a region that draws its order: the row that is owned grows. -/
theorem app_opN {P : Program} {ops : Array Oper} {o : Oper} {a : Act} {w : World} {K : Act → World → Prop} {Q : Exit → Act → World → Prop} (hgd : o.guard = none) (s x : Operand) (t : TypeId)
    (ho : o.op = .call { callee := .builtin .append, args := #[s, x], argTypes := #[t, t] })
    (base : Nat) (e : TypeId) (z : Value) (size bytes : Nat) (ht : P.underlying t = some (.slice e)) (hinfo : (P.info? e).map (fun i => (i.zero, i.size, i.bytes)) = some (some z, size, bytes))
    (hzs : z.cells.size = size) (hsz : 0 < size) (hby : 0 < bytes)
    (v : Value) (n : Nat) (xs : List Value) (hs : a.eval s = v) (hown : w.ownsRow base e size v n xs)
    (ad : Addr) (m c : Nat) (news : List Value) (hx : a.eval x = .slice (some ad) m c) (hl : news.length = m * size) (hnews : Rds w (some ad) news) (h1 : ∀ u ∈ news, u.oneCell' = true)
    (hbytes : (n + m) * bytes ≤ 140737488355328) (hbase : base ≤ w.heap.size)
    (h : ∀ v' w', w'.ownsRow base e size v' (n + m) (xs ++ news) → w.grownBy w' v.ownBlock → K (a.put o.dst v') w') :
    if Region.wanted o (yielded ops a.tmps) = true then Oper.wp P o a w K Q else K (a.put o.dst undef) w := by
  obtain ⟨i, hi, hz0, hz1, hz2⟩ := info_parts hinfo
  have hmax : n + m ≤ maxLen := by
    have : (n + m) * 1 ≤ (n + m) * bytes := Nat.mul_le_mul_left _ hby
    simp only [maxLen]; omega
  rw [if_pos (by simp [Region.wanted, hgd])]
  exact wp_append_own w s x t ho base e i z size bytes ht hi hz0 hz1 hz2 hzs hsz v n xs hs hown ad m c news hx hl (fun j u hu => by obtain ⟨a', e', hc⟩ := hnews j u hu; cases e'; exact hc) h1 hmax hbytes hbase (fun v' w' p q _ => h v' w' p q)
theorem rds_litN (w : World) (cs : Array Value) (T : TypeId) : Rds (w.alloc (.cells cs T)) (some ⟨w.heap.size, 0, none⟩) cs.toList := by
  intro i u hu
  refine ⟨_, rfl, ?_⟩
  rw [Addr.add_lit, cell_of_row _ w.heap.size _ cs T (0, 0) (heap_alloc_new _ _)]
  simpa using hu
theorem below_drewA {B : Nat} {w w' : World} (h : Below B w w') : Below B w w'.drew := ⟨h.os, h.tape, h.output, h.size, h.block⟩
end Lec

end