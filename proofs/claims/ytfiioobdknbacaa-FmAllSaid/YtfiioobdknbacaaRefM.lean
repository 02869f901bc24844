/- The walks of the reference's May, Before, sorted, Sort. -/
import Derived.Test.YtfiioobdknbacaaSa
import Derived.Test.YtfiioobdknbacaaMrgL
import Derived.Test.YtfiioobdknbacaaBlk
import Derived.Test.YtfiioobdknbacaaCut
import Derived.Test.YtfiioobdknbacaaHelpCN
import Derived.Test.YtfiioobdknbacaaProg
set_option linter.unusedVariables false
set_option linter.unusedSimpArgs false
namespace Lec
open Go Go.RowKit
theorem natsC_one (xs : List Nat) : ∀ u ∈ natsC xs, u.oneCell' = true := fun u hu => by simp [natsC] at hu; obtain ⟨_, _, rfl⟩ := hu; rfl
/-- s[:k]: one equation, wherever s lies. -/
theorem slice_hi1 {P : Program} {t e : TypeId} (ht : P.underlying t = some (.slice e)) (hsz : ∃ z, ∀ w, (Go.sizeOf e).run P w = Result.ok z w) (A : Option Addr) (n c k : Nat) (hk : k ≤ c) (w : World) :
    (Instr.sliceAt t (.slice A n c) none (some (.int .i64 (k : Int))) none).run P w = .ok (.slice A k c) w := by
  have he : P.elem t = e := by unfold Program.elem; rw [ht]
  obtain ⟨z, hz⟩ := hsz
  rw [run_sliceAt_slice w t _ _ _ _ (by rw [he]; exact ht), run_slice_h w t A n c (by rw [he]; exact ht) .i64 k (by omega) (by omega), he, hz]
  simp [Result.andThen, sliced]
  intro h
  cases A <;> rfl
/-- s[k:], s of elements of one cell. -/
def lowA (A : Option Addr) (c k : Nat) : Option Addr := if c = k then A else A.map (·.add k)
theorem slice_lo1 {P : Program} {t e : TypeId} (ht : P.underlying t = some (.slice e)) (hsz : ∀ w, (Go.sizeOf e).run P w = Result.ok 1 w) (A : Option Addr) (n c k : Nat) (hk : k ≤ n) (w : World) :
    (Instr.sliceAt t (.slice A n c) (some (.int .i64 (k : Int))) none none).run P w = .ok (.slice (lowA A c k) (n - k) (c - k)) w := by
  have he : P.elem t = e := by unfold Program.elem; rw [ht]
  rw [run_sliceAt_slice w t _ _ _ _ (by rw [he]; exact ht), run_slice_l w t A n c (by rw [he]; exact ht) .i64 k (by omega) (by omega), he, hsz]
  simp [Result.andThen, sliced, lowA]
theorem lowA_rds {w : World} {A : Option Addr} {xs : List Nat} {c k : Nat} (h : Rds w A (natsC xs)) (hk : k ≤ xs.length) (hc : xs.length ≤ c) : Rds w (lowA A c k) (natsC (xs.drop k)) := by
  have := h.drop1 (c := c) (k := k) (by simpa using hk) (by simpa using hc)
  unfold natsC at this ⊢
  rwa [map_drop] at this
theorem lowA_some {A : Option Addr} {c k : Nat} (h : A ≠ none) : lowA A c k ≠ none := by
  unfold lowA; split
  · exact h
  · cases A <;> simp_all
theorem natsC_rint {w : World} {A : Option Addr} {xs : List Nat} (h : Rds w A (natsC xs)) : Rds w A ((xs.map fun v : Nat => (v : Int)).map (fun x : Int => Value.int .i64 x)) := by
  rw [natsC_ints] at h; exact h
end Lec
namespace Go.Proofs.Ytfiioobdknbacaa
open Go.RowKit Lec
def mayS (k : Int) (L : List Int) : Bool := L.all fun c => decide (0 ≤ c ∧ c < k)

theorem May_any (w : World) (A : Option Addr) (n c : Nat) (L : List Int) (k : Int) (hn : L.length = n) (hm : n ≤ 1000000000) (hr : Rds w A (intsV L)) :
    Calls Try.prog 60 #[.int .i64 k, .slice A n c] w fun e w' => e = .returned (.bool (mayS k L)) ∧ w = w' := by
  have HR := Lib.hid hr
  have HN := Lib.hid hn
  clear hr hn
  go_enter Try.func60, Try.ntmps60
  go_wp2
  go_loop [5] (fun i => ∃ m : Nat, i = .int .i64 (m : Int) ∧ m ≤ n ∧ Hid (∀ j x, j < m → L[j]? = some x → 0 ≤ x ∧ x < k)) (fun i => n - (intOf i).toNat)
  case atStart => exact ⟨0, rfl, by omega, Lib.hid (fun j x hj => by omega)⟩
  case round =>
    obtain ⟨m, rfl, hmn, HS⟩ := hrel
    by_cases h1 : m < n
    · have h1i : (m : Int) < (n : Int) := by omega
      obtain ⟨x, hx⟩ : ∃ x, L[m]? = some x := ⟨_, List.getElem?_eq_getElem (by rw [HN.out]; exact h1)⟩
      obtain ⟨a, rfl, cx⟩ := HR.out m _ (intsV_at hx)
      have HX := Lib.hid hx
      clear hx
      by_cases hx0 : x < 0
      · have HB : Hid (mayS k L = false) := Lib.hid (by
          unfold mayS; rw [List.all_eq_false]
          exact ⟨x, List.mem_iff_getElem?.2 ⟨m, HX.out⟩, by simp; omega⟩)
        go_wp2
        go_ret
        exact ⟨by rw [HB.out]; rfl, rfl⟩
      · by_cases hxk : k ≤ x
        · have HB : Hid (mayS k L = false) := Lib.hid (by
            unfold mayS; rw [List.all_eq_false]
            exact ⟨x, List.mem_iff_getElem?.2 ⟨m, HX.out⟩, by simp; omega⟩)
          go_wp2
          go_ret
          exact ⟨by rw [HB.out]; rfl, rfl⟩
        · go_wp2
          go_round
          case rel =>
            refine ⟨m + 1, by go_num, by omega, Lib.hid (fun j y hj hy => ?_)⟩
            by_cases e : j = m
            · subst e; rw [HX.out] at hy; injection hy with hy; omega
            · exact HS.out j y (by omega) hy
          case measure => first | (simp [intOf]; done) | (simp [intOf]; omega)
    · obtain rfl : m = n := by omega
      have h1i : ¬ (m : Int) < (m : Int) := by omega
      have HB : Hid (mayS k L = true) := Lib.hid (by
        unfold mayS; rw [List.all_eq_true]
        intro x hx
        obtain ⟨j, hj⟩ := List.mem_iff_getElem?.1 hx
        have := HS.out j x (by have := (List.getElem?_eq_some_iff.1 hj).1; have := HN.out; omega) hj
        simpa using this)
      go_wp2
      go_ret
      exact ⟨by rw [HB.out]; rfl, rfl⟩

set_option maxRecDepth 100000 in
theorem Before_any (w : World) (A : Option Addr) (n c : Nat) (s : List Nat) (hn : s.length = n) (hm : n ≤ 1000000000) (hr : Rds w A (natsC s)) (v u : Nat) (hv : v ≤ n) (hu : u ≤ n) :
    Calls Try.prog 125 #[.slice A n c, .int .i64 (v : Int), .int .i64 (u : Int)] w fun e w' => e = .returned (.bool (decide (s.drop v < s.drop u))) ∧ ∃ q, w.drewN q = w' := by
  have HR := Lib.hid hr
  have HN := Lib.hid hn
  clear hr hn
  generalize hB : decide (s.drop v < s.drop u) = B
  have HB := Lib.hid hB
  clear hB
  go_enter Try.func125, Try.ntmps125
  go_wp2
  go_loopw [1, 2] (fun a b wr => ∃ i j q : Nat, a = .int .i64 (i : Int) ∧ b = .int .i64 (j : Int) ∧ i ≤ n ∧ j ≤ n ∧ Hid (decide (s.drop i < s.drop j) = B) ∧ wr = w.drewN q) (fun a _ _ => n + 1 - (intOf a).toNat)
  case atStart => exact ⟨v, u, 0, rfl, rfl, hv, hu, HB, rfl⟩
  case round =>
    clear HB
    obtain ⟨i, j, q, rfl, rfl, hi, hj, HB, rfl⟩ := hrel
    by_cases hin : i < n
    · have hini : (i : Int) < (n : Int) := by omega
      have hi0 : (0 : Int) ≤ (i : Int) := by omega
      have hie : ((i : Int) == (n : Int)) = false := by rw [beq_eq_false_iff_ne]; omega
      by_cases hjn : j < n
      · have hjni : (j : Int) < (n : Int) := by omega
        have hj0 : (0 : Int) ≤ (j : Int) := by omega
        have hje : ((j : Int) == (n : Int)) = false := by rw [beq_eq_false_iff_ne]; omega
        have his : i < s.length := by rw [HN.out]; exact hin
        have hjs : j < s.length := by rw [HN.out]; exact hjn
        have HLT := Lib.hid (Sa.lt_step s i j his hjs)
        obtain ⟨a, rfl, c1⟩ := HR.out i _ (natsC_at (v := Sa.sy s i) (by rw [List.getElem?_eq_getElem his]; simp [Sa.sy, List.getD_eq_getElem?_getD, his]))
        obtain ⟨a', e', c2⟩ := HR.out j _ (natsC_at (v := Sa.sy s j) (by rw [List.getElem?_eq_getElem hjs]; simp [Sa.sy, List.getD_eq_getElem?_getD, hjs]))
        obtain rfl := Option.some.inj e'
        clear e' his hjs
        generalize Sa.sy s i = x at *
        generalize Sa.sy s j = y at *
        by_cases hxy : x = y
        · have hxye : ((x : Int) == (y : Int)) = true := by rw [beq_iff_eq]; omega
          have HB2 : Hid (decide (s.drop (i + 1) < s.drop (j + 1)) = B) := Lib.hid (by
            rw [← HB.out, decide_eq_decide, HLT.out]; constructor
            · intro h; exact .inr ⟨hxy, h⟩
            · rintro (h | h)
              · omega
              · exact h.2)
          clear hxy HLT HB
          go_wp2
          go_quiet (fail)
          go_wp2
          go_roundw
          case rel => exact ⟨i + 1, j + 1, _, by go_num, by go_num, by omega, by omega, HB2, by first | rfl | (rw [World.drewN_drewN])⟩
          case measure => first | (simp [intOf]; done) | (simp [intOf]; omega)
        · have hxye : ((x : Int) == (y : Int)) = false := by rw [beq_eq_false_iff_ne]; omega
          have HB2 : Hid (decide ((x : Int) < (y : Int)) = B) := Lib.hid (by
            rw [← HB.out, decide_eq_decide, HLT.out]; constructor
            · intro h; exact .inl (by omega)
            · rintro (h | h)
              · omega
              · exact absurd h.1 hxy)
          clear hxy HLT HB
          go_wp2
          go_quiet (fail)
          go_wp2
          go_quiet (fail)
          go_wp2
          go_ret
          exact ⟨by rw [← HB2.out]; simp, by first | exact drawn2 _ _ _ | exact drawn1 _ _ | (simp only [World.drewN_drewN]; exact ⟨_, rfl⟩)⟩
      · obtain rfl : j = n := by omega
        have hjni : ¬ (j : Int) < (j : Int) := by omega
        have HB2 : Hid (B = false) := Lib.hid (by rw [← HB.out, decide_eq_false_iff_not, Sa.drop_end s j (by rw [HN.out]; exact Nat.le_refl _)]; exact Sa.lt_nil _)
        have hij : ¬ (j : Int) < (i : Int) := by omega
        have hij2 : ¬ j < i := by omega
        go_wp2
        go_quiet (fail)
        go_wp2
        go_ret
        exact ⟨by rw [HB2.out]; rfl, by first | exact drawn2 _ _ _ | exact drawn1 _ _ | (simp only [World.drewN_drewN]; exact ⟨_, rfl⟩)⟩
    · obtain rfl : i = n := by omega
      have hini : ¬ (i : Int) < (i : Int) := by omega
      by_cases hjn : j < i
      · have hji : (j : Int) < (i : Int) := by omega
        have HB2 : Hid (B = true) := Lib.hid (by rw [← HB.out, decide_eq_true_iff]; exact Sa.end_lt s i j (by rw [HN.out]; exact Nat.le_refl _) (by rw [HN.out]; exact hjn))
        go_wp2
        go_quiet (fail)
        go_wp2
        go_ret
        exact ⟨by rw [HB2.out]; rfl, by first | exact drawn2 _ _ _ | exact drawn1 _ _ | (simp only [World.drewN_drewN]; exact ⟨_, rfl⟩)⟩
      · have hji : ¬ (j : Int) < (i : Int) := by omega
        have HB2 : Hid (B = false) := Lib.hid (by rw [← HB.out, decide_eq_false_iff_not, Sa.drop_end s j (by rw [HN.out]; omega)]; exact Sa.lt_nil _)
        go_wp2
        go_quiet (fail)
        go_wp2
        go_ret
        exact ⟨by rw [HB2.out]; rfl, by first | exact drawn2 _ _ _ | exact drawn1 _ _ | (simp only [World.drewN_drewN]; exact ⟨_, rfl⟩)⟩

theorem add_zero (a : Addr) : a.add 0 = a := by unfold Addr.add; simp
theorem info_int' : (Try.prog.info? 3).map (fun i => (i.zero, i.size, i.bytes)) = some (some (.int .i64 0), 1, 8) := by kernel_rfl
theorem Calls.q_drawn {P : Program} {f : FuncId} {args : Array Value} {w : World} {n : Nat} {v : Value} (h : Calls P f args (w.drewN n) fun e w' => e = .returned v ∧ ∃ q, (w.drewN n).drewN q = w') :
    Calls P f args (w.drewN n) fun e w'' => e = .returned v ∧ ∃ m, w'' = w.drewN m := h.mono fun _ _ ⟨he, q, hm⟩ => ⟨he, n + q, by rw [← hm, World.drewN_drewN]⟩
/-- While two rows are merged. -/
structure MrgSt (w4 wr : World) (s a : List Nat) (X Y : Option Addr) (cx cy : Nat) (out : Value) (xs ys o : List Nat) : Prop where
  rx : Rds w4 X (natsC xs)
  ry : Rds w4 Y (natsC ys)
  lx : xs.length ≤ cx
  ly : ys.length ≤ cy
  nx : X = none → xs.length = 0 ∧ cx = 0
  ny : Y = none → ys.length = 0 ∧ cy = 0
  own : wr.ownsRow w4.heap.size 3 1 out o.length (natsC o)
  inv : MInv (fun v u => s.drop v < s.drop u) o xs ys a
  bel : Below w4.heap.size w4 wr
def MrgRel (w4 : World) (s a : List Nat) (x y out : Value) (wr : World) : Prop :=
  ∃ (X Y : Option Addr) (cx cy : Nat) (xs ys o : List Nat), x = .slice X xs.length cx ∧ y = .slice Y ys.length cy ∧ MrgSt w4 wr s a X Y cx cy out xs ys o
def lenV' : Value → Nat
  | .slice _ n _ => n
  | _ => 0
def MrgPost (w : World) (s a : List Nat) (e : Ending) (w' : World) : Prop :=
  ∃ (C : Option Addr) (cc : Nat) (b : List Nat), e = .returned (.slice C a.length cc) ∧ Rds w' C (natsC b) ∧ a.length ≤ cc ∧ (C = none → a.length = 0 ∧ cc = 0) ∧ b.length = a.length ∧ b.Pairwise (fun v u => s.drop v < s.drop u) ∧ (∀ x, x ∈ b ↔ x ∈ a) ∧ Below w.heap.size w w'
theorem lt_tr (s : List Nat) (a b c : Nat) : s.drop a < s.drop b → s.drop b < s.drop c → s.drop a < s.drop c := fun h1 h2 => List.lt_trans h1 h2

set_option maxRecDepth 100000 in
set_option maxHeartbeats 4000000 in
theorem merge_any (s : List Nat) (hm : s.length ≤ 1000000) : ∀ (N : Nat) (w : World) (A : Option Addr) (c : Nat) (hr : Rds w A (natsC s)) (B : Option Addr) (d : Nat) (a : List Nat) (hN : a.length ≤ N) (ha : Rds w B (natsC a)) (hd : a.length ≤ d) (hB : B = none → a.length = 0 ∧ d = 0) (hlt : ∀ v, v ∈ a → v < s.length) (hnd : a.Nodup),
    Calls Try.prog 99 #[.slice A s.length c, .slice B a.length d] w (MrgPost w s a) := by
  intro N
  induction N with
  | zero =>
    intro w A c hr B d a hN ha hd hB hlt hnd
    have ha0 : a = [] := List.eq_nil_of_length_eq_zero (by omega)
    subst ha0
    have hpost : ∀ e, e = .returned (.slice B 0 d) → MrgPost w s [] e w := fun e he => ⟨B, d, [], he, Rds.nil _ _, Nat.zero_le _, hB, rfl, List.Pairwise.nil, fun x => Iff.rfl, Below.refl _ _⟩
    have HP := Lib.hid hpost
    clear hr hB hd hpost ha
    go_enter Try.func99, Try.ntmps99
    go_wp2
    go_ret
    exact HP.out _ rfl
  | succ N ih =>
    intro w A c hr B d a hN ha hd hB hlt hnd
    have hal : a.length ≤ s.length := by have := Sa.nodup_len hnd (m := List.range s.length) (fun x hx => List.mem_range.2 (hlt x hx)); simpa using this
    by_cases h2 : a.length < 2
    · have hpost : ∀ e, e = .returned (.slice B a.length d) → MrgPost w s a e w := fun e he => ⟨B, d, a, he, ha, hd, hB, rfl, by
        match a, h2 with
        | [], _ => exact List.Pairwise.nil
        | [x], _ => simp, fun x => Iff.rfl, Below.refl _ _⟩
      have HP := Lib.hid hpost
      have h2i : (a.length : Int) < 2 := by omega
      clear hr hB hd hpost ha
      go_enter Try.func99, Try.ntmps99
      go_wp2
      go_ret
      exact HP.out _ rfl
    · have hk1 : a.length / 2 ≤ a.length := by omega
      have hk2 : a.length / 2 < a.length := by omega
      have hk3 : 0 < a.length / 2 := by omega
      have hBs : B ≠ none := fun h => by have := (hB h).1; omega
      have h2i : ¬ (a.length : Int) < 2 := by omega
      have hsl := slice_lo1 (P := Try.prog) Try.underlying45 (fun w => by kernel_rfl) B a.length d (a.length / 2) (by omega)
      rw [show ((a.length / 2 : Nat) : Int) = (a.length : Int) / 2 by omega] at hsl
      have hlen1 : (a.take (a.length / 2)).length = a.length / 2 := by rw [List.length_take]; omega
      have hlen2 : (a.drop (a.length / 2)).length = a.length - a.length / 2 := by rw [List.length_drop]
      have HC1 := Lib.hid (CopyNumbers_any w B (a.length / 2) d ((a.take (a.length / 2)).map fun v : Nat => (v : Int)) (by simp; omega) (by omega) (natsC_rint (by have := ha.take (a.length / 2); unfold natsC at this ⊢; rwa [map_take] at this)))
      have hlow := lowA_rds ha (k := a.length / 2) hk1 hd
      have HRD := Lib.hid hr
      have HLOW := Lib.hid hlow
      have HL1 := Lib.hid hlen1
      have HL2 := Lib.hid hlen2
      have HND1 := Lib.hid (List.Nodup.sublist (List.take_sublist (a.length / 2) a) hnd)
      have HND2 := Lib.hid (List.Nodup.sublist (List.drop_sublist (a.length / 2) a) hnd)
      have HTD := Lib.hid (List.take_append_drop (a.length / 2) a)
      have HLT1 : Hid (∀ v, v ∈ a.take (a.length / 2) → v < s.length) := Lib.hid (fun v hv => hlt v (List.mem_of_mem_take hv))
      have HLT2 : Hid (∀ v, v ∈ a.drop (a.length / 2) → v < s.length) := Lib.hid (fun v hv => hlt v (List.mem_of_mem_drop hv))
      have HND := Lib.hid hnd
      have HIH := Lib.hid ih
      have hl1 : a.length / 2 ≤ N := by omega
      have hl2 : a.length - a.length / 2 ≤ N := by omega
      generalize lowA B d (a.length / 2) = B2 at *
      generalize a.take (a.length / 2) = a1 at *
      generalize a.drop (a.length / 2) = a2 at *
      clear hr hlow hlen1 hlen2 ha hB hnd hlt ih
      go_enter Try.func99, Try.ntmps99
      go_wp2_with fail
      refine HC1.out.mono ?_
      rintro e w1 ⟨v, rfl, hown, hb1⟩
      obtain ⟨A1, c1, rfl, p1, p2, p3, p4, p5⟩ := own_rds hown
      have HX1 : Hid (Rds w1 A1 (natsC a1)) := Lib.hid (by rw [natsC_ints]; exact p4)
      have HP3 := Lib.hid p3
      have HP1 := Lib.hid p1
      clear HC1 hown p1 p2 p3 p4 p5
      have hih1 := HIH.out w1 A c (HRD.out.ext hb1 (Nat.le_refl _)) A1 c1 a1 (by rw [HL1.out]; exact hl1) HX1.out (by rw [HL1.out]; exact HP1.out) (by rw [HL1.out]; exact HP3.out) HLT1.out HND1.out
      rw [HL1.out] at hih1
      have HIH1 := Lib.hid hih1
      clear hih1
      go_wp2_with fail
      refine HIH1.out.mono ?_
      rintro e w2 ⟨X, lx, bx, rfl, rx, hx1, hx2, hx3, hx4, hx5, hb2⟩
      rw [HL1.out] at hx1 hx2 hx3 ⊢
      have hbe2 := hb1.trans (hb2.mono hb1.size)
      have HC2 := Lib.hid (CopyNumbers_any w2 B2 (a.length - a.length / 2) (d - a.length / 2) (a2.map fun v : Nat => (v : Int)) (by simp [HL2.out]) (by omega) (natsC_rint (HLOW.out.ext hbe2 (Nat.le_refl _))))
      have HX3 := Lib.hid hx3
      have HX2 := Lib.hid hx2
      have HX4 := Lib.hid hx4
      have HX5 := Lib.hid hx5
      have HRX := Lib.hid rx
      have HX1L := Lib.hid hx1
      clear hx3 hx2 hx4 hx5 rx hx1 hb1 hb2 HIH1 HX1 HP3 HP1
      go_wp2_with fail
      refine HC2.out.mono ?_
      rintro e w3 ⟨v, rfl, hown, hb3⟩
      obtain ⟨A4, c4, rfl, p1, p2, p3, p4, p5⟩ := own_rds hown
      have HY1 : Hid (Rds w3 A4 (natsC a2)) := Lib.hid (by rw [natsC_ints]; exact p4)
      have HP3 := Lib.hid p3
      have HP1 := Lib.hid p1
      have hbe3 := hbe2.trans (hb3.mono hbe2.size)
      clear HC2 hown p1 p2 p3 p4 p5
      have hih2 := HIH.out w3 A c (HRD.out.ext hbe3 (Nat.le_refl _)) A4 c4 a2 (by rw [HL2.out]; exact hl2) HY1.out (by rw [HL2.out]; exact HP1.out) (by rw [HL2.out]; exact HP3.out) HLT2.out HND2.out
      rw [HL2.out] at hih2
      have HIH2 := Lib.hid hih2
      clear hih2
      go_wp2_with fail
      refine HIH2.out.mono ?_
      rintro e w4 ⟨Y, ly, by_, rfl, ry, hy1, hy2, hy3, hy4, hy5, hb4⟩
      rw [HL2.out] at hy1 hy2 hy3 ⊢
      have hbe4 := hbe3.trans (hb4.mono hbe3.size)
      have hrx4 := HRX.out.ext (hb3.trans (hb4.mono hb3.size)) (Nat.le_refl _)
      have hinv : MInv (fun v u => s.drop v < s.drop u) [] bx by_ a := ⟨List.Pairwise.nil, HX4.out, hy4, fun v hv => by simp at hv, fun v hv => by simp at hv, fun z => by
          rw [← HTD.out, List.mem_append, HX5.out z, hy5 z]; simp, by rw [← HTD.out]; simp [HX3.out, hy3, HL1.out, HL2.out], fun z hz hz2 => by
          have hn := HND.out
          rw [← HTD.out] at hn
          exact (List.nodup_append.1 hn).2.2 z ((HX5.out z).1 hz) z ((hy5 z).1 hz2) rfl⟩
      have hst : MrgSt w4 w4 s a X Y lx ly (.slice none 0 0) bx by_ [] := ⟨hrx4, ry, by rw [HX3.out]; exact HX1L.out, by rw [hy3]; exact hy1, by rw [HX3.out]; exact HX2.out, by rw [hy3]; exact hy2, World.ownsRow_nil _ _ _ _, hinv, Below.refl _ _⟩
      have HHY3 := Lib.hid hy3
      have HHLT : Hid (∀ v, v ∈ a → v < s.length) := Lib.hid (fun v hv => by
        rw [← HTD.out, List.mem_append] at hv
        rcases hv with h | h
        · exact HLT1.out v h
        · exact HLT2.out v h)
      have HRD4 := Lib.hid (HRD.out.ext hbe4 (Nat.le_refl _))
      clear hy1 hy2 hy3 hy4 hy5 ry hrx4 hinv HIH HIH2 hsl HLOW HRX HX2 HX4 HX5 HX1L HND HND1 HND2 HLT1 HLT2 HTD HL1 HL2 HP3 HP1 HY1 hb3 hb4
      go_wp2
      go_loopw [5, 6, 7] (fun x y out wr => MrgRel w4 s a x y out wr) (fun x y _ _ => lenV' x + lenV' y)
      case atStart => exact ⟨X, Y, lx, ly, bx, by_, [], by rw [HX3.out], by rw [HHY3.out], hst⟩
      case round =>
        clear hst HX3 HHY3
        obtain ⟨X, Y, cx, cy, xs, ys, o, rfl, rfl, hst⟩ := hrel
        have hlen := hst.inv.len
        have hol : o.length ≤ 1000000 := by omega
        have hbz := hst.bel.size
        by_cases hxl : 0 < xs.length
        · have hx0 : (0 : Int) < (xs.length : Int) := by omega
          by_cases hyl : 0 < ys.length
          · obtain ⟨x, xs, rfl⟩ := List.exists_cons_of_length_pos hxl
            obtain ⟨y, ys, rfl⟩ := List.exists_cons_of_length_pos hyl
            clear hx0 hxl hyl
            have hmx : x < s.length := HHLT.out x ((hst.inv.mem x).2 (.inr (.inl (List.mem_cons_self ..))))
            have hmy : y < s.length := HHLT.out y ((hst.inv.mem y).2 (.inr (.inr (List.mem_cons_self ..))))
            have hne : x ≠ y := fun e => hst.inv.dis x (List.mem_cons_self ..) (by rw [e]; exact List.mem_cons_self ..)
            obtain ⟨ax, rfl, c1⟩ := (hst.rx.ext hst.bel (Nat.le_refl _)) 0 _ (natsC_at (xs := x :: xs) (v := x) rfl)
            obtain ⟨ay, rfl, c2⟩ := (hst.ry.ext hst.bel (Nat.le_refl _)) 0 _ (natsC_at (xs := y :: ys) (v := y) rfl)
            rw [add_zero] at c1 c2
            have HBEF : Hid (∀ q, Calls Try.prog 125 #[.slice A s.length c, .int .i64 (x : Int), .int .i64 (y : Int)] (wr.drewN q) fun e w' => e = .returned (.bool (decide (s.drop x < s.drop y))) ∧ ∃ q', (wr.drewN q).drewN q' = w') := Lib.hid (fun q => Before_any (wr.drewN q) A s.length c s rfl (by omega) (show Rds (wr.drewN q) A (natsC s) from Rds.ext (w' := wr) HRD4.out hst.bel (Nat.le_refl _)) x y (by omega) (by omega))
            have HC1 := Lib.hid c1
            have HC2 := Lib.hid c2
            have hlx := hst.lx
            have hly := hst.ly
            rw [List.length_cons] at hlx hly ⊢
            rw [List.length_cons]
            have hsx := slice_lo1 (P := Try.prog) Try.underlying45 (fun w => by kernel_rfl) (some ax) (xs.length + 1) cx 1 (by omega)
            have hsy := slice_lo1 (P := Try.prog) Try.underlying45 (fun w => by kernel_rfl) (some ay) (ys.length + 1) cy 1 (by omega)
            rw [Nat.add_sub_cancel, show ((1 : Nat) : Int) = 1 from rfl] at hsx hsy
            have hnx : lowA (some ax) cx 1 ≠ none := lowA_some (by simp)
            have hny : lowA (some ay) cy 1 ≠ none := lowA_some (by simp)
            have hrx : Rds w4 (lowA (some ax) cx 1) (natsC xs) := lowA_rds hst.rx (k := 1) (by simp) (by simpa using hlx)
            have hry : Rds w4 (lowA (some ay) cy 1) (natsC ys) := lowA_rds hst.ry (k := 1) (by simp) (by simpa using hly)
            generalize lowA (some ax) cx 1 = X2 at *
            generalize lowA (some ay) cy 1 = Y2 at *
            have hx0 : (0 : Int) < (xs.length : Int) + 1 := by omega
            have hy0 : (0 : Int) < (ys.length : Int) + 1 := by omega
            by_cases hlt : s.drop x < s.drop y
            · have HDE : Hid (decide (s.drop x < s.drop y) = true) := Lib.hid (decide_eq_true hlt)
              have HINV := Lib.hid (hst.inv.left (lt_tr s) hlt)
              rw [HDE.out] at HBEF
              go_wp2
              go_quiet ((go_at_call 125; exact Calls.q_drawn (HBEF.out _)))
              have HOW : Hid ((wr.drewN nq).ownsRow w4.heap.size 3 1 u7 o.length (natsC o)) := Lib.hid hst.own
              go_wp2_with (at_builtin; refine wp_app1 (w0 := wr.drewN nq) rfl rfl _ _ 45 rfl w4.heap.size 3 (.int .i64 0) 1 8 Try.underlying45 info_int' rfl (by decide) (by decide) _ o.length _ rfl HOW.out rfl rfl (one_cell1 rfl) (by omega) hbz ?_; intro v' w6 hown' hg' hb'; have HO2 := Lib.hid hown'; have HB2 := Lib.hid hb'; clear hown' hg' hb')
              go_roundw
              case rel => exact ⟨X2, some ay, cx - 1, cy, xs, y :: ys, o ++ [x], rfl, rfl, hrx, hst.ry, by omega, hst.ly, fun h => absurd h hnx, hst.ny, by have h := HO2.out; simpa [natsC] using h, HINV.out, (hst.bel.trans ((drawn_below wr nq).mono hbz)).trans (HB2.out.mono (Nat.le_refl _))⟩
              case measure => show lenV' (.slice _ _ _) + lenV' (.slice _ _ _) < lenV' (.slice _ _ _) + lenV' (.slice _ _ _); unfold lenV'; simp
            · have hgt : s.drop y < s.drop x := by
                rcases Sa.lt_or s x y hmx hmy hne with h | h
                · exact absurd h hlt
                · exact h
              have HDE : Hid (decide (s.drop x < s.drop y) = false) := Lib.hid (decide_eq_false hlt)
              have HINV := Lib.hid (hst.inv.right (lt_tr s) hgt)
              rw [HDE.out] at HBEF
              go_wp2
              go_quiet ((go_at_call 125; exact Calls.q_drawn (HBEF.out _)))
              have HOW : Hid ((wr.drewN nq).ownsRow w4.heap.size 3 1 u7 o.length (natsC o)) := Lib.hid hst.own
              go_wp2_with (at_builtin; refine wp_app1 (w0 := wr.drewN nq) rfl rfl _ _ 45 rfl w4.heap.size 3 (.int .i64 0) 1 8 Try.underlying45 info_int' rfl (by decide) (by decide) _ o.length _ rfl HOW.out rfl rfl (one_cell1 rfl) (by omega) hbz ?_; intro v' w6 hown' hg' hb'; have HO2 := Lib.hid hown'; have HB2 := Lib.hid hb'; clear hown' hg' hb')
              go_roundw
              case rel => exact ⟨some ax, Y2, cx, cy - 1, x :: xs, ys, o ++ [y], rfl, rfl, hst.rx, hry, hst.lx, by omega, hst.nx, fun h => absurd h hny, by have h := HO2.out; simpa [natsC] using h, HINV.out, (hst.bel.trans ((drawn_below wr nq).mono hbz)).trans (HB2.out.mono (Nat.le_refl _))⟩
              case measure => show lenV' (.slice _ _ _) + lenV' (.slice _ _ _) < lenV' (.slice _ _ _) + lenV' (.slice _ _ _); unfold lenV'; simp
          · have hy0 : ¬ (0 : Int) < (ys.length : Int) := by omega
            have HFIN := Lib.hid (hst.inv.fin (.inr (List.eq_nil_of_length_eq_zero (by omega))))
            clear hyl hxl
            have HOW : Hid (wr.ownsRow w4.heap.size 3 1 u7 o.length (natsC o)) := Lib.hid hst.own
            have HRX4 := Lib.hid (hst.rx.ext hst.bel (Nat.le_refl _))
            have HNX := Lib.hid hst.nx
            have HNY := Lib.hid hst.ny
            have hle2 : o.length + xs.length ≤ 1000000 := by omega
            go_upto_region 13 with (at_builtin; refine wp_app rfl _ _ 45 rfl w4.heap.size 3 (.int .i64 0) 1 8 Try.underlying45 info_int' rfl (by decide) (by decide) u7 o.length _ rfl HOW.out X xs.length cx (natsC xs) rfl HNX.out (by simp) HRX4.out (natsC_one _) (by omega) hbz ?_; intro v' w6 hown' hg'; have HO2 := Lib.hid hown'; have HG2 := Lib.hid hg'; clear hown' hg')
            have hb6 : Below w4.heap.size w4 w6 := hst.bel.grown HG2.out hst.bel.size (fun k hk => (hst.own.lt k hk).1)
            have HRY6 := Lib.hid (hst.ry.ext hb6 (Nat.le_refl _))
            have hbz6 := hb6.size
            have hown6 := HO2.out
            rw [show natsC o ++ natsC xs = natsC (o ++ xs) from (List.map_append ..).symm] at hown6
            have HO6 := Lib.hid hown6
            clear hown6
            go_wp2_with (at_builtin; refine wp_app rfl _ _ 45 rfl w4.heap.size 3 (.int .i64 0) 1 8 Try.underlying45 info_int' rfl (by decide) (by decide) v' (o.length + xs.length) _ rfl HO6.out Y ys.length cy (natsC ys) rfl HNY.out (by simp) HRY6.out (natsC_one _) (by omega) hbz6 ?_; intro v2 w7 hown' hg'; have HO7 := Lib.hid hown'; have HG7 := Lib.hid hg'; clear hown' hg')
            go_ret
            have hb7 : Below w4.heap.size w4 w7 := hb6.grown HG7.out hb6.size (fun k hk => (HO6.out.lt k hk).1)
            obtain ⟨C, cc, rfl, q1, _, q3, q4, _⟩ := own_rds HO7.out
            obtain ⟨f1, f2, f3⟩ := HFIN.out
            have hle3 : o.length + xs.length + ys.length = a.length := by have := hst.inv.len; omega
            rw [hle3] at q1 q3
            refine ⟨C, cc, o ++ xs ++ ys, by rw [hle3]; rfl, by rw [show natsC (o ++ xs ++ ys) = natsC (o ++ xs) ++ natsC ys from List.map_append ..]; exact q4, q1, q3, f3, f1, f2, hbe4.trans (hb7.mono hbe4.size)⟩
        · have hx0 : ¬ (0 : Int) < (xs.length : Int) := by omega
          have HFIN := Lib.hid (hst.inv.fin (.inl (List.eq_nil_of_length_eq_zero (by omega))))
          clear hxl
          have HOW : Hid (wr.ownsRow w4.heap.size 3 1 u7 o.length (natsC o)) := Lib.hid hst.own
          have HRX4 := Lib.hid (hst.rx.ext hst.bel (Nat.le_refl _))
          have HNX := Lib.hid hst.nx
          have HNY := Lib.hid hst.ny
          have hle2 : o.length + xs.length ≤ 1000000 := by omega
          go_upto_region 13 with (at_builtin; refine wp_app rfl _ _ 45 rfl w4.heap.size 3 (.int .i64 0) 1 8 Try.underlying45 info_int' rfl (by decide) (by decide) u7 o.length _ rfl HOW.out X xs.length cx (natsC xs) rfl HNX.out (by simp) HRX4.out (natsC_one _) (by omega) hbz ?_; intro v' w6 hown' hg'; have HO2 := Lib.hid hown'; have HG2 := Lib.hid hg'; clear hown' hg')
          have hb6 : Below w4.heap.size w4 w6 := hst.bel.grown HG2.out hst.bel.size (fun k hk => (hst.own.lt k hk).1)
          have HRY6 := Lib.hid (hst.ry.ext hb6 (Nat.le_refl _))
          have hbz6 := hb6.size
          have hown6 := HO2.out
          rw [show natsC o ++ natsC xs = natsC (o ++ xs) from (List.map_append ..).symm] at hown6
          have HO6 := Lib.hid hown6
          clear hown6
          go_wp2_with (at_builtin; refine wp_app rfl _ _ 45 rfl w4.heap.size 3 (.int .i64 0) 1 8 Try.underlying45 info_int' rfl (by decide) (by decide) v' (o.length + xs.length) _ rfl HO6.out Y ys.length cy (natsC ys) rfl HNY.out (by simp) HRY6.out (natsC_one _) (by omega) hbz6 ?_; intro v2 w7 hown' hg'; have HO7 := Lib.hid hown'; have HG7 := Lib.hid hg'; clear hown' hg')
          go_ret
          have hb7 : Below w4.heap.size w4 w7 := hb6.grown HG7.out hb6.size (fun k hk => (HO6.out.lt k hk).1)
          obtain ⟨C, cc, rfl, q1, _, q3, q4, _⟩ := own_rds HO7.out
          obtain ⟨f1, f2, f3⟩ := HFIN.out
          have hle3 : o.length + xs.length + ys.length = a.length := by have := hst.inv.len; omega
          rw [hle3] at q1 q3
          refine ⟨C, cc, o ++ xs ++ ys, by rw [hle3]; rfl, by rw [show natsC (o ++ xs ++ ys) = natsC (o ++ xs) ++ natsC ys from List.map_append ..]; exact q4, q1, q3, f3, f1, f2, hbe4.trans (hb7.mono hbe4.size)⟩
end Go.Proofs.Ytfiioobdknbacaa
