/- The walk of entries.Slice. -/
import Derived.Test.YtpdnkhdnenibgaaEntT
import Derived.Test.YtpdnkhdnenibgaaEntK
set_option linter.unusedVariables false
set_option linter.unusedSimpArgs false
namespace Lec
open Go Go.RowKit
/-- What Slice answers: entries, an error. -/
def sliceE (b t : Int) (L : List Ent) (i N : Int) : List Ent × Int :=
  if mayL b t L then if b < i ∧ i ≤ b + L.length + 1 then if 0 ≤ N then ((L.drop (i - b - 1).toNat).take N.toNat, 0) else ([], 1) else ([], 3) else ([], 1)
theorem rds_drop {w : World} {A : Option Addr} {L : List Ent} {k : Nat} {a : Addr} (h : Rds w A (entsC L)) (ha : A = some a) : Rds w (some (a.add (k * 3))) (entsC (L.drop k)) := by
  intro i v hv
  by_cases hk : k ≤ L.length
  · have e := entsC_app (L.take k) (L.drop k)
    rw [List.take_append_drop] at e
    have hl : (entsC (L.take k)).length = k * 3 := by rw [entsC_len, List.length_take]; omega
    obtain ⟨a', e', hc⟩ := h (k * 3 + i) v (by rw [e, List.getElem?_append_right (by omega), hl, show k * 3 + i - k * 3 = i by omega]; exact hv)
    rw [ha] at e'
    obtain rfl := Option.some.inj e'
    exact ⟨_, rfl, by rw [add_add]; exact hc⟩
  · rw [List.drop_eq_nil_of_le (by omega)] at hv
    simp [entsC] at hv
end Lec
namespace Go.Proofs.Ytpdnkhdnenibgaa
open Go.RowKit Lec
/-- Entries, new in memory, and an error. -/
def EntRet (w : World) (r : List Ent × Int) (e : Ending) (w' : World) : Prop :=
  ∃ v, e = .returned (.tuple #[v, .int .i64 r.2]) ∧ w'.ownsRow w.heap.size 56 3 v r.1.length (entsC r.1) ∧ Below w.heap.size w w'

set_option maxRecDepth 100000 in
set_option maxHeartbeats 1000000 in
theorem Slice_any (w : World) (b t : Int) (A : Option Addr) (n c : Nat) (L : List Ent) (hn : L.length = n) (hm : n ≤ 100000) (hnc : n ≤ c) (hA : A = none → n = 0 ∧ c = 0) (hr : Rds w A (entsC L)) (i N : Int) (hi : -4398046511104 ≤ i ∧ i ≤ 4398046511104) :
    Calls Try.prog 28 #[.agg #[.int .i64 b, .int .i64 t, .slice A n c], .int .i64 i, .int .i64 N] w (EntRet w (sliceE b t L i N)) := by
  have HR := Lib.hid hr
  have HN := Lib.hid hn
  have HA := Lib.hid hA
  clear hr hn hA
  generalize happ : sliceE b t L i N = res
  have HAPP := Lib.hid happ
  clear happ
  go_enter Try.func28, Try.ntmps28
  go_wp2_with fail
  obtain ⟨w0, hw0⟩ : ∃ w0, w0 = w.alloc (.cells #[.int .i64 b, .int .i64 t, .slice A n c] 26) := ⟨_, rfl⟩
  rw [← hw0]
  have HX : Hid (Below w.heap.size w w0) := by rw [hw0]; exact (Below.refl _ _).alloc (Nat.le_refl _) _
  have HL : Hid (Lg w0 w.heap.size b t (.slice A n c)) := by rw [hw0]; exact Lg.new w b t _ _
  replace HR := Lib.hid (HR.out.ext HX.out (Nat.le_refl _))
  clear hw0
  by_cases hok : mayL b t L
  · have HM1 := Lib.hid (decide_eq_true hok)
    refine (May_any w0 b t A n c L HN.out (by omega) HR.out _ HM1.out).mono ?_
    rintro r w1 ⟨rfl, hb⟩
    replace HX : Hid (Below w.heap.size w w1) := HX.out.trans (hb.mono HX.out.size)
    replace HL := Lib.hid (HL.out.ext hb (Nat.le_refl _))
    replace HR := Lib.hid (HR.out.ext hb (Nat.le_refl _))
    clear hb
    clear HM1
    obtain ⟨k0, k1, k2, f0, f1, f2, _⟩ := HL.out
    go_wp2_with fail
    clear k0 k1 k2 f0 f1 f2
    refine (End_any w1 b t A n c L HN.out (by omega) HR.out).mono ?_
    rintro r w2 ⟨rfl, hb⟩
    replace HX : Hid (Below w.heap.size w w2) := HX.out.trans (hb.mono HX.out.size)
    replace HL := Lib.hid (HL.out.ext hb (Nat.le_refl _))
    replace HR := Lib.hid (HR.out.ext hb (Nat.le_refl _))
    clear hb
    have hend : (endE b t L).1 = b + n := by rw [runsE_end _ _ _ hok.2.2.2.2.2, HN.out]
    have hbb : 0 ≤ b ∧ b ≤ 1099511625728 := ⟨hok.1, hok.2.1⟩
    have HOK := Lib.hid hok
    clear hok
    generalize endE b t L = en at *
    obtain ⟨ei, et⟩ := en
    obtain rfl : ei = b + n := hend
    by_cases hin : b < i ∧ i ≤ b + n + 1
    · obtain ⟨k, rfl⟩ : ∃ k : Nat, i = b + 1 + k := ⟨(i - b - 1).toNat, by omega⟩
      have hkn : k ≤ n := by omega
      have hg1 : ¬ b + 1 + (k : Int) ≤ b := by omega
      have hg2 : ¬ b + (n : Int) + 1 < b + 1 + (k : Int) := by omega
      by_cases hN : 0 ≤ N
      · obtain ⟨N, rfl⟩ := Int.eq_ofNat_of_zero_le hN
        have hN1 : ¬ (N : Int) < 0 := by omega
        have HE : Hid (res = ((L.drop k).take N, 0)) := by
          show _ = _; rw [← HAPP.out]; unfold sliceE; rw [if_pos HOK.out, if_pos (by rw [HN.out]; exact hin), if_pos (by omega), show (b + 1 + (k : Int) - b - 1).toNat = k by omega]; rfl
        clear HAPP hin HOK
        have HSU : Hid (b + 1 + (k : Int) - b - 1 = (k : Int)) := by show _ = _; omega
        have hsub := HSU.out
        have HW2 : Hid (w.heap.size ≤ w2.heap.size) := HX.out.size
        have hk0 : (0 : Int) ≤ (k : Int) := by omega
        have hkc : (k : Int) ≤ (c : Int) := by omega
        have HD : Hid ((L.drop k).length = n - k) := by show _ = _; rw [List.length_drop, HN.out]
        have hcase : (c = k ∧ n = k) ∨ ∃ a, A = some a ∧ ¬ c = k ∧ ¬ c - k = 0 := by
          have h1 := HA.out
          cases hA : A with
          | none => have := h1 hA; exact .inl ⟨by omega, by omega⟩
          | some a => by_cases h : c = k
                      · exact .inl ⟨h, by omega⟩
                      · exact .inr ⟨a, rfl, h, by omega⟩
        rcases hcase with ⟨rfl, rfl⟩ | ⟨a, rfl, hck, hck2⟩
        · replace HE : Hid (res = ([], 0)) := by show _ = _; rw [HE.out, List.drop_eq_nil_of_le (by rw [HN.out]; exact Nat.le_refl _)]; simp
          have HL0 : Hid (([] : List Ent).length = 0) := rfl
          by_cases hN0 : N = 0
          · subst hN0
            obtain ⟨k0, k1, k2, f0, f1, f2, _⟩ := HL.out
            go_wp2_with fail
            clear k0 k1 k2 f0 f1 f2
            refine (Clone_any w2 A 0 0 ([]) HL0.out (by omega) (fun _ => ⟨rfl, rfl⟩) (Rds.nil _ _)).mono ?_
            rintro e w3 ⟨v, rfl, hown, hb⟩
            obtain ⟨A1, c1, rfl, p1, p2, p3, p4, p5⟩ := own_rds hown
            have HO := Lib.hid hown
            replace HX : Hid (Below w.heap.size w w3) := HX.out.trans (hb.mono HX.out.size)
            have hle := HW2.out
            clear hown hb p1 p2 p3 p4 p5
            go_wp2
            go_ret2
            show EntRet _ _ _ _
            rw [HE.out]
            refine ⟨_, rfl, ?_, HX.out⟩
            show World.ownsRow _ _ _ _ _ ([]).length (entsC ([]))
            rw [HL0.out]
            exact own_lower HO.out hle
          · have hNp : 0 < N := by omega
            obtain ⟨k0, k1, k2, f0, f1, f2, _⟩ := HL.out
            go_wp2_with fail
            clear k0 k1 k2 f0 f1 f2
            refine (Clone_any w2 A 0 0 ([]) HL0.out (by omega) (fun _ => ⟨rfl, rfl⟩) (Rds.nil _ _)).mono ?_
            rintro e w3 ⟨v, rfl, hown, hb⟩
            obtain ⟨A1, c1, rfl, p1, p2, p3, p4, p5⟩ := own_rds hown
            have HO := Lib.hid hown
            replace HX : Hid (Below w.heap.size w w3) := HX.out.trans (hb.mono HX.out.size)
            have hle := HW2.out
            clear hown hb p1 p2 p3 p4 p5
            go_wp2
            go_ret2
            show EntRet _ _ _ _
            rw [HE.out]
            refine ⟨_, rfl, ?_, HX.out⟩
            show World.ownsRow _ _ _ _ _ ([]).length (entsC ([]))
            rw [HL0.out]
            exact own_lower HO.out hle
        · by_cases hmin : n - k < N
          · have HLL : Hid (((L.drop k).take N).length = n - k) := by show _ = _; rw [List.length_take, HD.out]; omega
            obtain ⟨k0, k1, k2, f0, f1, f2, _⟩ := HL.out
            go_wp2_with fail
            clear k0 k1 k2 f0 f1 f2
            refine (Clone_any w2 (some (a.add (k * 3))) (n - k) (c - k) (((L.drop k).take N)) HLL.out (by omega) (fun e => by cases e) (rds_take (rds_drop HR.out rfl) N)).mono ?_
            rintro e w3 ⟨v, rfl, hown, hb⟩
            obtain ⟨A1, c1, rfl, p1, p2, p3, p4, p5⟩ := own_rds hown
            have HO := Lib.hid hown
            replace HX : Hid (Below w.heap.size w w3) := HX.out.trans (hb.mono HX.out.size)
            have hle := HW2.out
            clear hown hb p1 p2 p3 p4 p5
            go_wp2
            go_ret2
            show EntRet _ _ _ _
            rw [HE.out]
            refine ⟨_, rfl, ?_, HX.out⟩
            show World.ownsRow _ _ _ _ _ (((L.drop k).take N)).length (entsC (((L.drop k).take N)))
            rw [HLL.out]
            exact own_lower HO.out hle
          · have HLL : Hid (((L.drop k).take N).length = N) := by show _ = _; rw [List.length_take, HD.out]; omega
            have hNc : (N : Int) ≤ ((c - k : Nat) : Int) := by omega
            obtain ⟨k0, k1, k2, f0, f1, f2, _⟩ := HL.out
            go_wp2_with fail
            clear k0 k1 k2 f0 f1 f2
            refine (Clone_any w2 (some (a.add (k * 3))) N (c - k) (((L.drop k).take N)) HLL.out (by omega) (fun e => by cases e) (rds_take (rds_drop HR.out rfl) N)).mono ?_
            rintro e w3 ⟨v, rfl, hown, hb⟩
            obtain ⟨A1, c1, rfl, p1, p2, p3, p4, p5⟩ := own_rds hown
            have HO := Lib.hid hown
            replace HX : Hid (Below w.heap.size w w3) := HX.out.trans (hb.mono HX.out.size)
            have hle := HW2.out
            clear hown hb p1 p2 p3 p4 p5
            go_wp2
            go_ret2
            show EntRet _ _ _ _
            rw [HE.out]
            refine ⟨_, rfl, ?_, HX.out⟩
            show World.ownsRow _ _ _ _ _ (((L.drop k).take N)).length (entsC (((L.drop k).take N)))
            rw [HLL.out]
            exact own_lower HO.out hle
      · have hN1 : N < 0 := by omega
        have HE : Hid (res = ([], 1)) := by
          show _ = _; rw [← HAPP.out]; unfold sliceE; rw [if_pos HOK.out, if_pos (by rw [HN.out]; exact hin), if_neg hN]
        clear HAPP
        obtain ⟨k0, k1, k2, f0, f1, f2, _⟩ := HL.out
        go_wp2
        go_ret2
        show EntRet _ _ _ _
        rw [HE.out]
        exact ⟨_, rfl, World.ownsRow_nil _ _ _ _, HX.out⟩
    · have HE : Hid (res = ([], 3)) := by
        show _ = _; rw [← HAPP.out]; unfold sliceE; rw [if_pos HOK.out, if_neg (by rw [HN.out]; exact hin)]
      clear HAPP
      by_cases h1 : i ≤ b
      · --
        obtain ⟨k0, k1, k2, f0, f1, f2, _⟩ := HL.out
        go_wp2
        go_ret2
        show EntRet _ _ _ _
        rw [HE.out]
        exact ⟨_, rfl, World.ownsRow_nil _ _ _ _, HX.out⟩
      · have h2 : b + (n : Int) + 1 < i := by omega
        obtain ⟨k0, k1, k2, f0, f1, f2, _⟩ := HL.out
        go_wp2
        go_ret2
        show EntRet _ _ _ _
        rw [HE.out]
        exact ⟨_, rfl, World.ownsRow_nil _ _ _ _, HX.out⟩
  · have HM1 := Lib.hid (decide_eq_false hok)
    have HE : Hid (res = ([], 1)) := by show _ = _; rw [← HAPP.out]; unfold sliceE; rw [if_neg hok]
    refine (May_any w0 b t A n c L HN.out (by omega) HR.out _ HM1.out).mono ?_
    rintro r w1 ⟨rfl, hb⟩
    replace HX : Hid (Below w.heap.size w w1) := HX.out.trans (hb.mono HX.out.size)
    replace HL := Lib.hid (HL.out.ext hb (Nat.le_refl _))
    replace HR := Lib.hid (HR.out.ext hb (Nat.le_refl _))
    clear hb
    clear HM1 HAPP hok
    obtain ⟨k0, k1, k2, f0, f1, f2, _⟩ := HL.out
    go_wp2
    go_ret2
    show EntRet _ _ _ _
    rw [HE.out]
    exact ⟨_, rfl, World.ownsRow_nil _ _ _ _, HX.out⟩
end Go.Proofs.Ytpdnkhdnenibgaa
