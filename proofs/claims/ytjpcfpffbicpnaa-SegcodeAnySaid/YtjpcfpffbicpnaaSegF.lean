/- The walks of slices.BinarySearch over texts and of a segment's Doc. -/
import Derived.Test.YtjpcfpffbicpnaaSegT
set_option linter.unusedVariables false
set_option linter.unusedSimpArgs false
namespace Lec
open Go
theorem bl_irrefl : ∀ x : List UInt8, Op.bytesLess x x = false
  | [] => rfl
  | a :: x => by simp [Op.bytesLess, bl_irrefl x]
theorem bl_trans : ∀ {x y z : List UInt8}, Op.bytesLess x y = true → Op.bytesLess y z = true → Op.bytesLess x z = true
  | x, [], z, h, _ => by cases x <;> simp [Op.bytesLess] at h
  | [], b :: y, [], _, h => by simp [Op.bytesLess] at h
  | [], b :: y, c :: z, _, _ => by simp [Op.bytesLess]
  | a :: x, b :: y, [], _, h => by simp [Op.bytesLess] at h
  | a :: x, b :: y, c :: z, h, k => by
    simp only [Op.bytesLess, Bool.or_eq_true, Bool.and_eq_true, decide_eq_true_eq, beq_iff_eq] at h k ⊢
    rcases h with h | ⟨rfl, h⟩
    · rcases k with k | ⟨rfl, k⟩
      · exact .inl (UInt8.lt_trans h k)
      · exact .inl h
    · rcases k with k | ⟨rfl, k⟩
      · exact .inl k
      · exact .inr ⟨rfl, bl_trans h k⟩
/-- Names that rise. -/
def Rises (ts : List ByteArray) : Prop := ∀ (i j : Nat) (hij : i < j) (h : j < ts.length), Op.bytesLess (ts[i]'(Nat.lt_trans hij h)).toList ts[j].toList = true
theorem rises_of {ts : List ByteArray} (h : ∀ i, (hi : i + 1 < ts.length) → Op.bytesLess (ts[i]'(by omega)).toList ts[i + 1].toList = true) : Rises ts := by
  intro i j hij hj
  obtain ⟨n, rfl⟩ : ∃ n, j = i + 1 + n := ⟨j - i - 1, by omega⟩
  induction n with
  | zero => exact h i hj
  | succ n ih => exact bl_trans (ih (by omega) (by omega)) (h (i + 1 + n) hj)
theorem form_rises {ds : List Doc} (h : Sg.chkD ds = 0) : Rises (ds.map Doc.id) := by
  refine rises_of (fun i hi => ?_)
  rw [List.length_map] at hi
  have hf : Sg.formB ds = true := by
    unfold Sg.chkD at h
    split at h
    · assumption
    · cases h
  have := List.all_eq_true.1 hf (i + 1) (List.mem_range.2 hi)
  rw [Sg.formAt_pos hi (by omega), Bool.and_eq_true] at this
  simpa [Sg.ltB] using this.2
/-- Where a text stands, or would. -/
def FoundT (ts : List ByteArray) (s : ByteArray) (i : Nat) (t : Bool) : Prop := (t = true → ∃ h : i < ts.length, ts[i] = s) ∧ (t = false → ∀ j, (h : j < ts.length) → ts[j] ≠ s)
theorem found_of {ts : List ByteArray} (hr : Rises ts) {s : ByteArray} {i : Nat} (hi : i ≤ ts.length) (h1 : ∀ j, (h : j < ts.length) → j < i → Op.bytesLess ts[j].toList s.toList = true) (h2 : ∀ j, (h : j < ts.length) → i ≤ j → Op.bytesLess ts[j].toList s.toList = false)
    (h3 : ∀ h : i < ts.length, ts[i] ≠ s) : ∀ j, (h : j < ts.length) → ts[j] ≠ s := by
  intro j hj e
  by_cases hji : j < i
  · have := h1 j hj hji
    rw [e, bl_irrefl] at this
    cases this
  · by_cases e2 : j = i
    · subst e2; exact h3 hj e
    · have h4 := hr i j (by omega) hj
      rw [e] at h4
      rw [h2 i (by omega) (Nat.le_refl _)] at h4
      cases h4
end Lec
namespace Go.Proofs.Ytjpcfpffbicpnaa
open Go.RowKit Lec
theorem nanC_any (w : World) (s : ByteArray) : Calls Try.prog 113 #[.string s] w fun e w' => e = .returned (.bool false) ∧ w = w' := by
  go_enter Try.func113, Try.ntmps113
  go_wp2
  go_ret
  exact ⟨by simp, rfl⟩
theorem nanS_any (w : World) (s : ByteArray) : Calls Try.prog 85 #[.string s] w fun e w' => e = .returned (.bool false) ∧ w = w' := by
  go_enter Try.func85, Try.ntmps85
  go_wp2
  go_ret
  exact ⟨by simp, rfl⟩
theorem lessS_any (w : World) (s t : ByteArray) : Calls Try.prog 84 #[.string s, .string t] w fun e w' => e = .returned (.bool (Op.bytesLess s.toList t.toList)) ∧ w = w' := by
  go_enter Try.func84, Try.ntmps84
  go_wp2_with (go_at_call 113; refine (nanC_any _ _).mono ?_; rintro e wq ⟨rfl, rfl⟩)
  go_ret
  exact ⟨by simp, rfl⟩
def BinPost (w : World) (ts : List ByteArray) (s : ByteArray) (e : Ending) (w' : World) : Prop := ∃ (i : Nat) (t : Bool), e = .returned (.tuple #[.int .i64 (i : Int), .bool t]) ∧ FoundT ts s i t ∧ w = w'
set_option maxRecDepth 100000 in
theorem binS_any (w : World) (A : Option Addr) (c : Nat) (ts : List ByteArray) (hl : ts.length ≤ 1000000) (hr : Rises ts) (h : Rds w A (ts.map Value.string)) (s : ByteArray) :
    Calls Try.prog 58 #[.slice A ts.length c, .string s] w (BinPost w ts s) := by
  have HR := Lib.hid h
  have HI := Lib.hid hr
  clear h hr
  go_enter Try.func58, Try.ntmps58
  go_wp2
  go_loopw [7, 8] (fun a b wr => ∃ x y : Nat, a = .int .i64 (x : Int) ∧ b = .int .i64 (y : Int) ∧ x ≤ y ∧ y ≤ ts.length ∧ Hid (∀ j, (h : j < ts.length) → j < x → Op.bytesLess ts[j].toList s.toList = true) ∧ Hid (∀ j, (h : j < ts.length) → y ≤ j → Op.bytesLess ts[j].toList s.toList = false) ∧ Hid (w = wr)) (fun a b _ => (intOf b - intOf a).toNat)
  case atStart => exact ⟨0, ts.length, rfl, rfl, by omega, by omega, Lib.hid (fun j _ h => by omega), Lib.hid (fun j _ h => by omega), rfl⟩
  case round =>
    obtain ⟨x, y, rfl, rfl, hxy, hyl, HA, HB, HW⟩ := hrel
    obtain rfl := HW.out
    by_cases h1 : x < y
    · have h1i : (x : Int) < (y : Int) := by omega
      go_upto_region 5 with (fail)
      have e : ((x : Int) + (y : Int)) / 2 = (((x + y) / 2 : Nat) : Int) := by omega
      have hm1 : x ≤ (x + y) / 2 := by omega
      have hm2 : (x + y) / 2 < y := by omega
      have hml : (x + y) / 2 < ts.length := by omega
      rw [e]
      generalize (x + y) / 2 = m at *
      clear e
      have hmi : (m : Int) < (ts.length : Int) := by omega
      obtain ⟨a, rfl, hc⟩ := HR.out.map m hml
      have HXM : Hid (∀ j, (h : j < ts.length) → j < m → Op.bytesLess ts[j].toList (ts[m]'hml).toList = true) := Lib.hid fun j h hj => HI.out j m hj hml
      have HMX : Hid (∀ j, (h : j < ts.length) → m < j → Op.bytesLess (ts[m]'hml).toList ts[j].toList = true) := Lib.hid fun j h hj => HI.out m j hj h
      have HMM : Hid (∀ j, (h : j < ts.length) → j = m → ts[j] = ts[m]'hml) := Lib.hid fun j h hj => by subst hj; rfl
      generalize ts[m]'hml = tm at *
      have HLS := Lib.hid (lessS_any w tm s)
      cases hb : Op.bytesLess tm.toList s.toList with
      | true =>
        have HA2 : Hid (∀ j, (h : j < ts.length) → j < m + 1 → Op.bytesLess ts[j].toList s.toList = true) := Lib.hid fun j h hj => by
          by_cases hjm : j = m
          · rw [HMM.out j h hjm]; exact hb
          · exact bl_trans (HXM.out j h (by omega)) hb
        rw [hb] at HLS
        clear hb
        go_wp2_with fail
        refine HLS.out.mono ?_
        rintro e wq ⟨rfl, rfl⟩
        go_wp2
        go_roundw
        case rel => exact ⟨m + 1, y, by go_num, rfl, by omega, hyl, HA2, HB, by first | trivial | rfl⟩
        case measure => first | (simp [intOf]; done) | (simp [intOf]; omega)
      | false =>
        have HB2 : Hid (∀ j, (h : j < ts.length) → m ≤ j → Op.bytesLess ts[j].toList s.toList = false) := Lib.hid fun j h hj => by
          by_cases hjm : j = m
          · rw [HMM.out j h hjm]; exact hb
          · cases hq : Op.bytesLess ts[j].toList s.toList with
            | false => rfl
            | true => rw [bl_trans (HMX.out j h (by omega)) hq] at hb; cases hb
        rw [hb] at HLS
        clear hb
        go_wp2_with fail
        refine HLS.out.mono ?_
        rintro e wq ⟨rfl, rfl⟩
        go_wp2
        go_roundw
        case rel => exact ⟨x, m, rfl, rfl, by omega, by omega, HA, HB2, by first | trivial | rfl⟩
        case measure => first | (simp [intOf]; done) | (simp [intOf]; omega)
    · obtain rfl : x = y := by omega
      have h1i : ¬ (x : Int) < (x : Int) := by omega
      have HFO : Hid ((∀ h : x < ts.length, ts[x] ≠ s) → ∀ j, (h : j < ts.length) → ts[j] ≠ s) := Lib.hid fun h3 => found_of HI.out hyl HA.out HB.out h3
      by_cases h2 : x < ts.length
      · have h2i : (x : Int) < (ts.length : Int) := by omega
        obtain ⟨a, rfl, hc⟩ := HR.out.map x h2
        have HXX : Hid (∀ h : x < ts.length, ts[x] = ts[x]'h2) := Lib.hid fun h => rfl
        generalize ts[x]'h2 = tx at *
        by_cases h3 : tx = s
        · have HF : Hid (FoundT ts s x true) := Lib.hid ⟨fun _ => ⟨h2, by rw [HXX.out h2]; exact h3⟩, fun h => by cases h⟩
          have h3i : (tx.toList == s.toList) = true := by rw [h3]; simp
          clear h3
          go_wp2_with (go_at_call 85; refine (nanS_any _ _).mono ?_; rintro e wq ⟨rfl, rfl⟩)
          go_ret2
          exact ⟨x, true, rfl, HF.out, rfl⟩
        · have HF : Hid (FoundT ts s x false) := Lib.hid ⟨fun h => by (cases h), fun _ => HFO.out (fun h => by rw [HXX.out h]; exact h3)⟩
          have h3i : (tx.toList == s.toList) = false := by rw [beq_eq_false_iff_ne]; exact fun h => h3 (txt_inj h)
          clear h3
          go_wp2_with (go_at_call 85; refine (nanS_any _ _).mono ?_; rintro e wq ⟨rfl, rfl⟩)
          go_ret2
          exact ⟨x, false, rfl, HF.out, rfl⟩
      · have h2i : ¬ (x : Int) < (ts.length : Int) := by omega
        have HF : Hid (FoundT ts s x false) := Lib.hid ⟨fun h => by (cases h), fun _ => HFO.out (fun h => absurd h h2)⟩
        go_wp2
        go_ret2
        exact ⟨x, false, rfl, HF.out, rfl⟩
/-- What Doc answers. -/
def docAns (ds : List Doc) (id : ByteArray) : ByteArray × Nat := match ds.find? (fun d => decide (d.id = id)) with | some d => (d.text, 0) | none => (⟨#[]⟩, 3)
theorem ids_ne {ds : List Doc} (h : Rises (ds.map Doc.id)) {i j : Nat} (hi : i < ds.length) (hj : j < ds.length) (e : ds[i].id = ds[j].id) : i = j := by
  have hl : (ds.map Doc.id).length = ds.length := List.length_map _
  rcases Nat.lt_trichotomy i j with hh | hh | hh
  · have := h i j hh (by rw [hl]; exact hj)
    simp only [List.getElem_map] at this
    rw [e, bl_irrefl] at this; cases this
  · exact hh
  · have := h j i hh (by rw [hl]; exact hi)
    simp only [List.getElem_map] at this
    rw [e, bl_irrefl] at this; cases this
theorem docAns_at {ds : List Doc} (h : Rises (ds.map Doc.id)) {i : Nat} (hi : i < ds.length) : docAns ds ds[i].id = (ds[i].text, 0) := by
  unfold docAns
  have : ds.find? (fun d => decide (d.id = ds[i].id)) = some ds[i] := by
    rw [List.find?_eq_some_iff_getElem]
    exact ⟨by simp, i, hi, rfl, fun j hj => by
      have hn : ds[j].id ≠ ds[i].id := fun e => by have := ids_ne h (by omega) hi e; omega
      simpa using hn⟩
  rw [this]
theorem docAns_no {ds : List Doc} {id : ByteArray} (h : ∀ d ∈ ds, d.id ≠ id) : docAns ds id = (⟨#[]⟩, 3) := by
  unfold docAns
  have : ds.find? (fun d => decide (d.id = id)) = none := by
    rw [List.find?_eq_none]
    intro d hd
    simpa using h d hd
  rw [this]
set_option maxRecDepth 100000 in
theorem segDoc_any (w : World) (x : Nat) (ds : List Doc) (lo : Nat) (h0 : Sg.chkD ds = 0) (h : SegN w x ds lo) (id : ByteArray) :
    Calls Try.prog 36 #[.pointer (some ⟨x, 0, none⟩), .string id] w fun e w' => e = .returned (.tuple #[.string (docAns ds id).1, .int .i64 ((docAns ds id).2 : Int)]) ∧ Below w.heap.size w w' := by
  have HTX : Hid (∀ i (hi : i < ds.length), _) := Lib.hid fun i hi => text_any w x ds lo h0 h i hi
  have h64 := (chk_none h0).1
  have hrs := form_rises h0
  have HRS := Lib.hid hrs
  obtain ⟨ix, AN, cN, bp, D, b, h1, hfc, h3, h4, h5, h6, h7⟩ := h
  have c1 := h1.cell (o := 1) rfl
  have HBS := Lib.hid (binS_any w AN cN (ds.map Doc.id) (by rw [List.length_map]; omega) hrs (by rw [List.map_map]; exact h5) id)
  rw [List.length_map] at HBS
  clear h0 h1 hfc h3 h4 h5 h6 h7 hrs
  go_enter Try.func36, Try.ntmps36
  go_wp2_with fail
  refine HBS.out.mono ?_
  rintro e w1 ⟨i, t, rfl, hf, rfl⟩
  cases t with
  | true =>
    obtain ⟨hi, he⟩ := hf.1 rfl
    rw [List.length_map] at hi
    rw [List.getElem_map] at he
    have HAN : Hid (docAns ds id = (ds[i].text, 0)) := Lib.hid (by rw [← he]; exact docAns_at HRS.out hi)
    have HT := Lib.hid (HTX.out i hi)
    generalize ds[i] = d at *
    clear hf he hi
    go_wp2_with fail
    refine HT.out.mono ?_
    rintro e w2 ⟨rfl, hb⟩
    have HB := Lib.hid hb
    clear hb
    go_wp2
    go_ret2
    exact ⟨by rw [HAN.out]; rfl, HB.out⟩
  | false =>
    have HAN : Hid (docAns ds id = (⟨#[]⟩, 3)) := Lib.hid (docAns_no fun d hd => by
      obtain ⟨j, hj, rfl⟩ := List.getElem_of_mem hd
      have := hf.2 rfl j (by rw [List.length_map]; exact hj)
      rwa [List.getElem_map] at this)
    clear hf
    go_wp2
    go_ret2
    exact ⟨by rw [HAN.out]; rfl, Below.refl _ _⟩
end Go.Proofs.Ytjpcfpffbicpnaa
