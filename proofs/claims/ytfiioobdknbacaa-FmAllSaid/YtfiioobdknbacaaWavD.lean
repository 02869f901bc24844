/- The walks of a level's ones and down. -/
import Derived.Test.YtfiioobdknbacaaWavS
import Derived.Test.YtfiioobdknbacaaVecG
import Derived.Test.YtfiioobdknbacaaCut
set_option linter.unusedVariables false
set_option linter.unusedSimpArgs false
namespace Lec
open Go Go.RowKit
theorem rank_ones (f : Nat → Bool) (l : List Nat) (i : Nat) : rankB (l.map f) i = Wv.ones f l i := by
  unfold rankB Wv.ones
  rw [← List.map_take]
  induction l.take i with
  | nil => rfl
  | cons c m ih => cases h : f c <;> simp [h, ih]
/-- A level: its vector, how many of it are 0. -/
def levV (p : Nat) (f : Nat → Bool) (l : List Nat) : Value := .agg #[.pointer (some ⟨p, 0, none⟩), .int .i64 (Wv.nought f l : Int)]
end Lec
namespace Go.Proofs.Ytfiioobdknbacaa
open Go.RowKit Lec
theorem wones_any (w : World) (p : Nat) (f : Nat → Bool) (l : List Nat) (hv : Vec w p (l.map f)) (hm : l.length ≤ 1048576) (i : Nat) (hi : i ≤ l.length) :
    Calls Try.prog 101 #[levV p f l, .int .i64 (i : Int)] w fun e w' => e = .returned (.int .i64 (Wv.ones f l i : Int)) ∧ Below w.heap.size w w' := by
  unfold levV
  obtain ⟨n, hn⟩ : ∃ n, n = Wv.nought f l := ⟨_, rfl⟩
  rw [← hn]
  have hb0 : Below w.heap.size w (w.alloc (.cells #[.pointer (some ⟨p, 0, none⟩), .int .i64 (n : Int)] 112)) := (Below.refl _ _).alloc (Nat.le_refl _) _
  have HRK := Lib.hid (Rank_in (w.alloc (.cells #[.pointer (some ⟨p, 0, none⟩), .int .i64 (n : Int)] 112)) p (l.map f) (hv.ext hb0 (Nat.le_refl _)) (by rw [List.length_map]; exact hm) i (by rw [List.length_map]; exact hi))
  rw [rank_ones] at HRK
  have HB := Lib.hid hb0
  clear hv hn hb0
  go_enter Try.func101, Try.ntmps101
  go_wp2_with fail
  refine HRK.out.mono ?_
  rintro e w1 ⟨rfl, q, rfl⟩
  have HX : Hid (Below w.heap.size w ((w.alloc (.cells #[.pointer (some ⟨p, 0, none⟩), .int .i64 (n : Int)] 112)).drewN q)) := HB.out.trans ((drawn_below _ q).mono HB.out.size)
  go_wp2
  go_ret
  exact ⟨rfl, HX.out⟩
theorem ones_le (f : Nat → Bool) (l : List Nat) (i : Nat) : Wv.ones f l i ≤ i ∧ Wv.ones f l i ≤ l.length := by
  unfold Wv.ones
  have := (List.filter_sublist (l := l.take i) (p := f)).length_le
  rw [List.length_take] at this
  omega
set_option maxRecDepth 100000 in
theorem down_any (w : World) (p : Nat) (f : Nat → Bool) (l : List Nat) (hv : Vec w p (l.map f)) (hm : l.length ≤ 1048576) (b : Bool) (i : Nat) (hi : i ≤ l.length) :
    Calls Try.prog 72 #[levV p f l, .bool b, .int .i64 (i : Int)] w fun e w' => e = .returned (.int .i64 (Wv.down f l b i : Int)) ∧ Below w.heap.size w w' := by
  have hon : ∀ wz, Below w.heap.size w wz → Calls Try.prog 101 #[levV p f l, .int .i64 (i : Int)] wz fun e w' => e = .returned (.int .i64 (Wv.ones f l i : Int)) ∧ Below wz.heap.size wz w' := fun wz h => wones_any wz p f l (hv.ext h (Nat.le_refl _)) hm i hi
  have hle := ones_le f l i
  have hnl : Wv.nought f l ≤ l.length := (List.filter_sublist (l := l) (p := fun c => !f c)).length_le
  have HDO : Hid (Wv.down f l b i = if b then Wv.nought f l + Wv.ones f l i else i - Wv.ones f l i) := rfl
  unfold levV at *
  have HON := Lib.hid hon
  clear hv hon
  generalize Wv.nought f l = n at *
  generalize Wv.ones f l i = m at *
  obtain ⟨r, hr⟩ : ∃ r, r = Wv.down f l b i := ⟨_, rfl⟩
  rw [← hr] at HDO ⊢
  clear hr
  go_enter Try.func72, Try.ntmps72
  go_upto_region 1 with (fail)
  obtain ⟨w0, hw0⟩ : ∃ w0, w0 = w.alloc (.cells #[.pointer (some ⟨p, 0, none⟩), .int .i64 (n : Int)] 112) := ⟨_, rfl⟩
  have HB : Hid (Below w.heap.size w w0) := by rw [hw0]; exact (Below.refl _ _).alloc (Nat.le_refl _) _
  have HP : Hid (Blk w0 w.heap.size 112 [.pointer (some ⟨p, 0, none⟩), .int .i64 (n : Int)]) := by rw [hw0]; exact Blk.new w _ _
  rw [← hw0]
  clear hw0
  have c0 := HP.out.cell (o := 0) rfl
  have c1 := HP.out.cell (o := 1) rfl
  cases b with
  | true =>
    have hd : Below w.heap.size w w0.drew := (HB.out.trans ((drawn_below w0 1).mono HB.out.size))
    go_upto_region 2 with (fail)
    go_region_held3 (fun w' => w'.cell? ⟨w.heap.size, 0, none⟩ = some (.pointer (some ⟨p, 0, none⟩)) ∧ w'.cell? ⟨w.heap.size, 1, none⟩ = some (.int .i64 (n : Int))) (first | (with_reducible exact ⟨c0, c1⟩) | go_keep)
      (first | (go_at_call 101; with_reducible refine (HON.out w0.drew hd).mono ?_
                rintro e w1 ⟨rfl, hb⟩
                have HB1 : Hid (Below w.heap.size w w1) := hd.trans (hb.mono hd.size)
                have HP1 := Lib.hid ((show Blk w0.drew _ _ _ from HP.out.drew 1).ext hb (Nat.le_refl _))
                clear c0 c1 hb
                have c0 := HP1.out.cell (o := 0) rfl
                have c1 := HP1.out.cell (o := 1) rfl))
    have hre : (r : Int) = (n : Int) + (m : Int) := by have := HDO.out; simp at this; omega
    have hw : IntKind.i64.wrap ((n : Int) + (m : Int)) = (n : Int) + (m : Int) := wrap_id (by omega)
    go_wp2
    go_ret
    exact ⟨by rw [hre]; show Ending.returned (.int .i64 (IntKind.i64.wrap ((n : Int) + (m : Int)))) = _; rw [hw], HB1.out⟩
  | false =>
    go_wp2_with fail
    refine (HON.out w0 HB.out).mono ?_
    rintro e w1 ⟨rfl, hb⟩
    have HB1 : Hid (Below w.heap.size w w1) := HB.out.trans (hb.mono HB.out.size)
    have hre : (r : Int) = (i : Int) - (m : Int) := by have := HDO.out; simp at this; omega
    have hw : IntKind.i64.wrap ((i : Int) - (m : Int)) = (i : Int) - (m : Int) := wrap_id (by omega)
    clear c0 c1 hb
    go_wp2
    go_ret
    exact ⟨by rw [hre]; rfl, HB1.out⟩
end Go.Proofs.Ytfiioobdknbacaa
