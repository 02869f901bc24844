/- The walk of the reference's Get. -/
import Derived.Test.YthibhndeejichaaRefPut
set_option linter.unusedVariables false
set_option linter.unusedSimpArgs false
namespace Lec
open Go Go.RowKit
theorem numG_pos {bs r : List UInt8} {n : Nat} (h : numG bs = some (n, r)) : r.length < bs.length := by
  unfold numG at h
  cases hg : getB 0 0 bs with
  | none => rw [hg] at h; cases h
  | some x =>
    obtain ⟨m, k⟩ := x
    have hb := getB_bound bs 0 0 m k (by omega) (by omega) hg
    rw [hg] at h
    by_cases hle : m ≤ bs.length - k
    · simp only [hle, if_true] at h
      obtain ⟨rfl, rfl⟩ := h
      simp; omega
    · simp [hle] at h
theorem textsG_short : ∀ (k : Nat) (r : List UInt8), r.length < k → textsG k r = none
  | 0, r, h => by omega
  | k + 1, r, h => by
    unfold textsG
    cases hg : numG r with
    | none => rfl
    | some x =>
      obtain ⟨m, r1⟩ := x
      have := numG_pos hg
      have e := textsG_short k (r1.drop m) (by rw [List.length_drop]; omega)
      show (match textsG k (r1.drop m) with | none => none | some (l, r2) => some (bytesOf (r1.take m) :: l, r2)) = none
      rw [e]
theorem finG_short {k : Nat} {acc : List ByteArray} {r : List UInt8} (h : r.length < k) : finG k acc r = none := by
  unfold finG; rw [textsG_short k r h]
theorem getL_get {bs : List UInt8} {n k : Nat} (hb : ¬ 1048576 < bs.length) (h : getB 0 0 bs = some (n, k)) : getL bs = finG n [] (bs.drop k) := by
  by_cases hle : n ≤ bs.length - k
  · exact getL_some hb (by unfold numG; rw [h]; simp [hle])
  · rw [getL_none (by unfold numG; rw [h]; simp [hle])]
    exact (finG_short (by rw [List.length_drop]; omega)).symm
theorem numG_none {bs : List UInt8} (h : getB 0 0 bs = none) : numG bs = none := by unfold numG; rw [h]
theorem numG_far {bs : List UInt8} {n k : Nat} (h : getB 0 0 bs = some (n, k)) (hf : ¬ n ≤ bs.length - k) : numG bs = none := by unfold numG; rw [h]; simp [hf]
theorem numG_near {bs : List UInt8} {n k : Nat} (h : getB 0 0 bs = some (n, k)) (hf : n ≤ bs.length - k) : numG bs = some (n, bs.drop k) := by unfold numG; rw [h]; simp [hf]
theorem refR_none {bs : List UInt8} (h : getB 0 0 bs = none) : refR bs = (0, 0) := by unfold refR; rw [h]
theorem refR_some {bs : List UInt8} {n k : Nat} (h : getB 0 0 bs = some (n, k)) : refR bs = ((n : Int), (k : Int)) := by unfold refR; rw [h]
end Lec
namespace Go.Proofs.Ythibhndeejichaa
open Go.RowKit Lec

def RefGetPost (bs : List UInt8) (w : World) (e : Ending) (w' : World) : Prop :=
  Below w.heap.size w w' ∧
  ((getL bs = none ∧ ∃ v, e = .returned (.tuple #[v, .bool false])) ∨
   (∃ l v, getL bs = some l ∧ e = .returned (.tuple #[v, .bool true]) ∧ w'.ownsRow w.heap.size 9 1 v l.length (l.map Value.string)))

set_option maxRecDepth 100000 in
set_option maxHeartbeats 2000000 in
theorem refGet_any (w : World) (A : Option Addr) (n c : Nat) (bs : List UInt8) (hn : bs.length = n) (hnc : n ≤ c) (hm : n ≤ 140737488351232) (hr : Rds w A (bytesV bs)) :
    Calls Try.prog 44 #[.slice A n c] w (RefGetPost bs w) := by
  have HR := Lib.hid hr
  have HN := Lib.hid hn
  clear hr hn
  go_enter Try.func44, Try.ntmps44
  by_cases hbig : 1048576 < n
  · have hbi : (1048576 : Int) < (n : Int) := by omega
    have HE : Hid (getL bs = none) := getL_big (by rw [HN.out]; exact hbig)
    go_wp2
    go_ret2
    exact ⟨Below.refl _ _, .inl ⟨HE.out, _, rfl⟩⟩
  · have hbi : ¬ (1048576 : Int) < (n : Int) := by omega
    go_wp2_with fail
    refine (refGetNum_any w A n c bs HN.out (by omega) HR.out).mono ?_
    rintro e w1 ⟨rfl, hb1⟩
    have HX1 := Lib.hid hb1
    clear hb1
    cases hg : getB 0 0 bs with
    | none =>
      have HE : Hid (getL bs = none) := getL_none (numG_none hg)
      rw [refR_none hg]
      clear hg
      go_wp2
      go_ret2
      exact ⟨HX1.out, .inl ⟨HE.out, _, rfl⟩⟩
    | some x =>
      obtain ⟨cnt, k0⟩ := x
      have HE : Hid (getL bs = finG cnt [] (bs.drop k0)) := getL_get (by rw [HN.out]; exact hbig) hg
      have hbd := getB_bound bs 0 0 cnt k0 (by omega) (by omega) hg
      have hk0 : 0 < k0 := hbd.2.1
      have hkn : k0 ≤ n := by have := hbd.2.2.2; rw [HN.out] at this; omega
      have hk0i : ((k0 : Int) == 0) = false := by rw [beq_eq_false_iff_ne]; omega
      rw [refR_some hg]
      clear hg hbd
      by_cases hcn : n < cnt
      · have hci : (n : Int) < (cnt : Int) := by omega
        have HF : Hid (getL bs = none) := by show _ = _; rw [HE.out]; exact finG_short (by rw [List.length_drop, HN.out]; omega)
        go_wp2
        go_ret2
        exact ⟨HX1.out, .inl ⟨HF.out, _, rfl⟩⟩
      · have hci : ¬ (n : Int) < (cnt : Int) := by omega
        go_wp2
        go_loopw [5, 6, 7] (fun at' v i wr => ∃ (q p : Nat) (acc : List ByteArray), i = .int .i64 (q : Int) ∧ at' = .int .i64 (p : Int) ∧ q ≤ cnt ∧ acc.length = q ∧ p ≤ n ∧
            Hid (wr.ownsRow w.heap.size 9 1 v q (acc.map Value.string)) ∧ Hid (Below w.heap.size w wr) ∧ Hid (getL bs = finG (cnt - q) acc (bs.drop p))) (fun _ _ i _ => cnt - (intOf i).toNat)
        case atStart => exact ⟨0, k0, [], rfl, rfl, by omega, rfl, hkn, World.ownsRow_nil _ _ _ _, HX1, HE⟩
        case round =>
          clear HX1 HE
          obtain ⟨q, p, acc, rfl, rfl, hq, hacc, hp, HO, HX, HG⟩ := hrel
          by_cases hqc : q < cnt
          · have hqi : (q : Int) < (cnt : Int) := by omega
            have hlen : (bs.drop p).length = n - p := by rw [List.length_drop, HN.out]
            have HLD := Lib.hid hlen
            have HDR : Hid (Rds wr (if c = p then A else A.map (·.add p)) (bytesV (bs.drop p))) := by
              have := ((HR.out.ext HX.out (Nat.le_refl _)).drop1 (c := c) (k := p) (by simp [HN.out]; omega) (by simp [HN.out]; omega) : Rds wr _ _)
              rw [map_drop] at this; exact this
            clear hlen
            have hcp : ((c : Int) - (p : Int)).toNat = c - p := by omega
            have hnp : ((n : Int) - (p : Int)).toNat = n - p := by omega
            have HRW : Hid (Rds wr A (bytesV bs)) := HR.out.ext HX.out (Nat.le_refl _)
            by_cases hcap : c = p
            · have hnp0 : n = p := by omega
              subst hcap hnp0
              have HGN : Hid (getL bs = none) := by
                show _ = _
                rw [HG.out]
                exact finG_short (by rw [HLD.out]; omega)
              go_wp2_with fail
              refine (refGetNum_any _ _ _ _ [] (by simp) (by omega) (Rds.nil _ _)).mono ?_
              rintro e w2 ⟨rfl, hb2⟩
              have HX2 : Hid (Below w.heap.size w w2) := HX.out.trans (hb2.mono HX.out.size)
              rw [show refR [] = (0, 0) from rfl]
              clear hb2
              go_wp2
              go_ret2
              exact ⟨HX2.out, .inl ⟨HGN.out, _, rfl⟩⟩
            · have HDR2 : Hid (Rds wr (A.map (·.add p)) (bytesV (bs.drop p))) := by have := HDR.out; rw [if_neg hcap] at this; exact this
              cases A with
              | none =>
                have hbs : bs.drop p = [] := by
                  have := HDR2.out
                  cases hd : bs.drop p with
                  | nil => rfl
                  | cons b l => rw [hd] at this; obtain ⟨a, e, _⟩ := this 0 _ rfl; cases e
                have HGN : Hid (getL bs = none) := by
                  show _ = _
                  rw [HG.out, hbs]
                  exact finG_short (by simp; omega)
                go_wp2_with fail
                refine (refGetNum_any wr none (n - p) (c - p) (bs.drop p) HLD.out (by omega) HDR2.out).mono ?_
                rintro e w2 ⟨rfl, hb2⟩
                have HX2 : Hid (Below w.heap.size w w2) := HX.out.trans (hb2.mono HX.out.size)
                rw [hbs, show refR [] = (0, 0) from rfl]
                clear hb2 hbs
                go_wp2
                go_ret2
                exact ⟨HX2.out, .inl ⟨HGN.out, _, rfl⟩⟩
              | some a =>
                go_wp2_with fail
                refine (refGetNum_any wr (some (a.add p)) (n - p) (c - p) (bs.drop p) HLD.out (by omega) HDR2.out).mono ?_
                rintro e w2 ⟨rfl, hb2⟩
                have HX2 : Hid (Below w.heap.size w w2) := HX.out.trans (hb2.mono HX.out.size)
                have HO2 := Lib.hid (own_ext HO.out hb2 (Nat.le_refl _))
                have HRW2 := Lib.hid (HRW.out.ext hb2 (Nat.le_refl _))
                clear hb2 HX HO HRW HDR2 HDR
                cases hg : getB 0 0 (bs.drop p) with
                | none =>
                  have HGN : Hid (getL bs = none) := by
                    show _ = _
                    rw [HG.out, show cnt - q = (cnt - q - 1) + 1 by omega]; exact finG_none (numG_none hg)
                  rw [refR_none hg]
                  clear hg
                  go_wp2
                  go_ret2
                  exact ⟨HX2.out, .inl ⟨HGN.out, _, rfl⟩⟩
                | some x =>
                  obtain ⟨m, k2⟩ := x
                  have hbd := getB_bound _ 0 0 m k2 (by omega) (by omega) hg
                  have hk2 : 0 < k2 := hbd.2.1
                  have hk2n : k2 ≤ n - p := by have := hbd.2.2.2; rw [HLD.out] at this; omega
                  have hk2i : ((k2 : Int) == 0) = false := by rw [beq_eq_false_iff_ne]; omega
                  rw [refR_some hg]
                  by_cases hle : m ≤ n - p - k2
                  · have HGS : Hid (getL bs = finG (cnt - (q + 1)) (acc ++ [bytesOf ((bs.drop (p + k2)).take m)]) (bs.drop (p + k2 + m))) := by
                      show _ = _
                      rw [HG.out, show cnt - q = (cnt - (q + 1)) + 1 by omega, finG_some (numG_near hg (by rw [HLD.out]; exact hle)), List.drop_drop, List.drop_drop]
                    have hlei : ¬ ((n : Int) - (p : Int) - (k2 : Int)) < (m : Int) := by omega
                    have hln : ((p : Int) + (k2 : Int) + (m : Int) - ((p : Int) + (k2 : Int))).toNat = m := by omega
                    have hcn2 : ((c : Int) - ((p : Int) + (k2 : Int))).toNat = c - (p + k2) := by omega
                    have hpk : ((p : Int) + (k2 : Int)).toNat = p + k2 := by omega
                    have HDL : Hid (Rds w2 (if c = p + k2 then some a else (some a).map (·.add (p + k2))) (bytesV (bs.drop (p + k2)))) := by
                      have := (HRW2.out.drop1 (c := c) (k := p + k2) (by simp [HN.out]; omega) (by simp [HN.out]; omega) : Rds w2 _ _)
                      rw [map_drop] at this; exact this
                    clear hg hbd HRW2 HG
                    by_cases hck : c = p + k2
                    · have hm0 : m = 0 := by omega
                      subst hm0
                      have hcv := conv_str w2 24 9 5 Try.underlying24 Try.underlying5 Try.underlying9 (some a) 0 0 ((bs.drop (p + k2)).take 0) rfl (Rds.nil _ _)
                      have hcc : (c : Int) = (p : Int) + (k2 : Int) := by omega
                      generalize bytesOf ((bs.drop (p + k2)).take 0) = tx at *
                      go_wp2_with (at_builtin; refine wp_app1 (w0 := w2) rfl rfl _ _ 38 rfl w.heap.size 9 (.string ⟨#[]⟩) 1 16 Try.underlying38 info_str rfl (by decide) (by decide) _ q _ rfl HO2.out rfl rfl (one_cell1 rfl) (by omega) HX2.out.size ?_; intro v' w' hown' hg' hb'; have HO3 := Lib.hid hown'; have HX3 := Lib.hid (HX2.out.trans hb'); clear hown' hg' hb')
                      go_roundw
                      case rel => exact ⟨_, _, _, _, _, ⟨q + 1, by go_num, p + k2, by go_num, by omega, acc ++ [tx], by simp; omega, by omega, by show World.ownsRow _ _ _ _ _ _ _; rw [List.map_append]; exact HO3.out, HGS⟩, rfl, rfl, rfl, rfl, rfl⟩
                      case measure => simp [intOf]; omega
                    · have hcv := conv_str w2 24 9 5 Try.underlying24 Try.underlying5 Try.underlying9 (some (a.add (p + k2))) m (c - (p + k2)) ((bs.drop (p + k2)).take m) (by rw [List.length_take, List.length_drop, HN.out]; omega)
                        (by have := HDL.out; rw [if_neg hck] at this; have := this.take m; rwa [map_take] at this)
                      generalize bytesOf ((bs.drop (p + k2)).take m) = tx at *
                      go_wp2_with (at_builtin; refine wp_app1 (w0 := w2) rfl rfl _ _ 38 rfl w.heap.size 9 (.string ⟨#[]⟩) 1 16 Try.underlying38 info_str rfl (by decide) (by decide) _ q _ rfl HO2.out rfl rfl (one_cell1 rfl) (by omega) HX2.out.size ?_; intro v' w' hown' hg' hb'; have HO3 := Lib.hid hown'; have HX3 := Lib.hid (HX2.out.trans hb'); clear hown' hg' hb')
                      go_roundw
                      case rel => exact ⟨q + 1, p + k2 + m, acc ++ [tx], by go_num, by go_num, by omega, by simp; omega, by omega, by show World.ownsRow _ _ _ _ _ _ _; rw [List.map_append]; exact HO3.out, HX3, HGS⟩
                      case measure => simp [intOf]; omega
                  · have HGN : Hid (getL bs = none) := by
                      show _ = _
                      rw [HG.out, show cnt - q = (cnt - q - 1) + 1 by omega]; exact finG_none (numG_far hg (by rw [HLD.out]; exact hle))
                    have hlei : ((n : Int) - (p : Int) - (k2 : Int)) < (m : Int) := by omega
                    clear hg hbd
                    go_wp2
                    go_ret2
                    exact ⟨HX2.out, .inl ⟨HGN.out, _, rfl⟩⟩
          · obtain rfl : q = cnt := by omega
            have hqi : ¬ (q : Int) < (q : Int) := by omega
            have HF : Hid (getL bs = if bs.drop p = [] then some acc else none) := by show _ = _; rw [HG.out, Nat.sub_self]; exact finG_zero _ _
            by_cases hpn : p = n
            · have hpi : ((p : Int) == (n : Int)) = true := by rw [hpn]; simp
              have HT : Hid (getL bs = some acc) := by show _ = _; rw [HF.out, if_pos (List.drop_eq_nil_of_le (by rw [HN.out]; omega))]
              go_wp2
              go_ret2
              exact ⟨HX.out, .inr ⟨acc, _, HT.out, rfl, by rw [hacc]; exact HO.out⟩⟩
            · have hpi : ((p : Int) == (n : Int)) = false := by rw [beq_eq_false_iff_ne]; omega
              have HT : Hid (getL bs = none) := by show _ = _; rw [HF.out, if_neg (fun e => by have := congrArg List.length e; rw [List.length_drop, HN.out] at this; simp at this; omega)]
              go_wp2
              go_ret2
              exact ⟨HX.out, .inl ⟨HT.out, _, rfl⟩⟩
end Go.Proofs.Ythibhndeejichaa
