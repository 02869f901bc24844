/- Several texts in one. Merging two sorted rows: plain. No program stands here. | The walks of the reference's May, Before, sorted, Sort. | The walks of the reference's Sort, and of suffix's check and Sort. | suffix.Sort of numbers; fixed lists' endings. | The last column of the sorted rows: plain. No program stands here. | The walks of bwt.Make and lecternref3.Make. -/
import Derived.Test.YtjpcfpffbicpnaaSa
import Derived.Test.YtjpcfpffbicpnaaPackBas
import Derived.Test.YtjpcfpffbicpnaaProg
import Derived.Test.YtjpcfpffbicpnaaPackSuf
import Derived.Test.YtjpcfpffbicpnaaLcp
section
set_option linter.unusedVariables false
set_option linter.unusedSimpArgs false
namespace Lec
structure MInv (R : Nat → Nat → Prop) (o xs ys all : List Nat) : Prop where
  so : o.Pairwise R
  sx : xs.Pairwise R
  sy : ys.Pairwise R
  ox : ∀ v, v ∈ o → ∀ u, u ∈ xs → R v u
  oy : ∀ v, v ∈ o → ∀ u, u ∈ ys → R v u
  mem : ∀ x, x ∈ all ↔ x ∈ o ∨ x ∈ xs ∨ x ∈ ys
  len : o.length + xs.length + ys.length = all.length
  dis : ∀ x, x ∈ xs → ¬ x ∈ ys
section
variable {R : Nat → Nat → Prop} (tr : ∀ a b c, R a b → R b c → R a c) {o xs ys all : List Nat} {x y : Nat}
theorem MInv.swap (h : MInv R o xs ys all) : MInv R o ys xs all :=
  ⟨h.so, h.sy, h.sx, h.oy, h.ox, fun x => by rw [h.mem x]; constructor <;> (rintro (a | a | a) <;> simp [a]), by have := h.len; omega, fun x hx hy => h.dis x hy hx⟩
include tr in
theorem MInv.left (h : MInv R o (x :: xs) (y :: ys) all) (hxy : R x y) : MInv R (o ++ [x]) xs (y :: ys) all := by
  have hsx := List.pairwise_cons.1 h.sx
  have hsy := List.pairwise_cons.1 h.sy
  refine ⟨List.pairwise_append.2 ⟨h.so, by simp, fun v hv u hu => ?_⟩, hsx.2, h.sy, fun v hv u hu => ?_, fun v hv u hu => ?_, fun z => ?_, ?_, fun z hz => h.dis z (List.mem_cons_of_mem _ hz)⟩
  · rw [List.mem_singleton] at hu; subst hu; exact h.ox v hv u (List.mem_cons_self ..)
  · rcases List.mem_append.1 hv with hv | hv
    · exact h.ox v hv u (List.mem_cons_of_mem _ hu)
    · rw [List.mem_singleton] at hv; subst hv; exact hsx.1 u hu
  · rcases List.mem_append.1 hv with hv | hv
    · exact h.oy v hv u hu
    · rw [List.mem_singleton] at hv; subst hv
      rcases List.mem_cons.1 hu with rfl | hu
      · exact hxy
      · exact tr _ _ _ hxy (hsy.1 u hu)
  · rw [h.mem z, List.mem_append, List.mem_singleton, List.mem_cons (a := z) (b := x)]
    constructor
    · rintro (a | (a | a) | a) <;> simp [a]
    · rintro ((a | a) | a | a) <;> simp [a]
  · have := h.len
    simp only [List.length_append, List.length_cons, List.length_nil] at this ⊢; omega
include tr in
theorem MInv.right (h : MInv R o (x :: xs) (y :: ys) all) (hxy : R y x) : MInv R (o ++ [y]) (x :: xs) ys all := (MInv.left tr h.swap hxy).swap
theorem MInv.fin (h : MInv R o xs ys all) (he : xs = [] ∨ ys = []) : (o ++ xs ++ ys).Pairwise R ∧ (∀ x, x ∈ o ++ xs ++ ys ↔ x ∈ all) ∧ (o ++ xs ++ ys).length = all.length := by
  refine ⟨?_, fun z => ?_, ?_⟩
  · rcases he with rfl | rfl
    · rw [List.append_nil]; exact List.pairwise_append.2 ⟨h.so, h.sy, fun v hv u hu => h.oy v hv u hu⟩
    · rw [List.append_nil]; exact List.pairwise_append.2 ⟨h.so, h.sx, fun v hv u hu => h.ox v hv u hu⟩
  · rw [h.mem z]; simp [or_assoc]
  · have := h.len; simp; omega
end
end Lec

end
section
set_option linter.unusedVariables false
set_option linter.unusedSimpArgs false
namespace Lec
open Go Go.RowKit
theorem natsC_one (xs : List Nat) : ∀ u ∈ natsC xs, u.oneCell' = true := fun u hu => by simp [natsC] at hu; obtain ⟨_, _, rfl⟩ := hu; rfl
/-- s[:k]: one equation, wherever s lies. -/
theorem slice_hi1 {P : Program} {t e : TypeId} (ht : P.underlying t = some (.slice e)) (hsz : ∃ z, ∀ w, (Go.sizeOf e).run P w = Result.ok z w) (A : Option Addr) (n c k : Nat) (hk : k ≤ c) (w : World) :
    (Instr.sliceAt t (.slice A n c) none (some (.int .i64 (k : Int))) none).run P w = .ok (.slice A k c) w := by
  have he : P.elem t = e := by unfold Program.elem; rw [ht]
  obtain ⟨z, hz⟩ := hsz
  rw [run_sliceAt_slice w t _ _ _ _ (by rw [he]; exact ht), run_slice_h w t A n c (by rw [he]; exact ht) .i64 k (by omega) (by omega), he, hz]
  simp [Result.andThen, sliced]
  intro h
  cases A <;> rfl
/-- s[k:], s of elements of one cell. -/
def lowA (A : Option Addr) (c k : Nat) : Option Addr := if c = k then A else A.map (·.add k)
theorem slice_lo1 {P : Program} {t e : TypeId} (ht : P.underlying t = some (.slice e)) (hsz : ∀ w, (Go.sizeOf e).run P w = Result.ok 1 w) (A : Option Addr) (n c k : Nat) (hk : k ≤ n) (w : World) :
    (Instr.sliceAt t (.slice A n c) (some (.int .i64 (k : Int))) none none).run P w = .ok (.slice (lowA A c k) (n - k) (c - k)) w := by
  have he : P.elem t = e := by unfold Program.elem; rw [ht]
  rw [run_sliceAt_slice w t _ _ _ _ (by rw [he]; exact ht), run_slice_l w t A n c (by rw [he]; exact ht) .i64 k (by omega) (by omega), he, hsz]
  simp [Result.andThen, sliced, lowA]
theorem lowA_rds {w : World} {A : Option Addr} {xs : List Nat} {c k : Nat} (h : Rds w A (natsC xs)) (hk : k ≤ xs.length) (hc : xs.length ≤ c) : Rds w (lowA A c k) (natsC (xs.drop k)) := by
  have := h.drop1 (c := c) (k := k) (by simpa using hk) (by simpa using hc)
  unfold natsC at this ⊢
  rwa [map_drop] at this
theorem lowA_some {A : Option Addr} {c k : Nat} (h : A ≠ none) : lowA A c k ≠ none := by
  unfold lowA; split
  · exact h
  · cases A <;> simp_all
theorem natsC_rint {w : World} {A : Option Addr} {xs : List Nat} (h : Rds w A (natsC xs)) : Rds w A ((xs.map fun v : Nat => (v : Int)).map (fun x : Int => Value.int .i64 x)) := by
  rw [natsC_ints] at h; exact h
end Lec
namespace Go.Proofs.Ytjpcfpffbicpnaa
open Go.RowKit Lec
def mayS (k : Int) (L : List Int) : Bool := L.all fun c => decide (0 ≤ c ∧ c < k)

theorem add_zero (a : Addr) : a.add 0 = a := by unfold Addr.add; simp
theorem info_int' : (Try.prog.info? 3).map (fun i => (i.zero, i.size, i.bytes)) = some (some (.int .i64 0), 1, 8) := by kernel_rfl
theorem Calls.q_drawn {P : Program} {f : FuncId} {args : Array Value} {w : World} {n : Nat} {v : Value} (h : Calls P f args (w.drewN n) fun e w' => e = .returned v ∧ ∃ q, (w.drewN n).drewN q = w') :
    Calls P f args (w.drewN n) fun e w'' => e = .returned v ∧ ∃ m, w'' = w.drewN m := h.mono fun _ _ ⟨he, q, hm⟩ => ⟨he, n + q, by rw [← hm, World.drewN_drewN]⟩
/-- While two rows are merged. -/
structure MrgSt (w4 wr : World) (s a : List Nat) (X Y : Option Addr) (cx cy : Nat) (out : Value) (xs ys o : List Nat) : Prop where
  rx : Rds w4 X (natsC xs)
  ry : Rds w4 Y (natsC ys)
  lx : xs.length ≤ cx
  ly : ys.length ≤ cy
  nx : X = none → xs.length = 0 ∧ cx = 0
  ny : Y = none → ys.length = 0 ∧ cy = 0
  own : wr.ownsRow w4.heap.size 3 1 out o.length (natsC o)
  inv : MInv (fun v u => s.drop v < s.drop u) o xs ys a
  bel : Below w4.heap.size w4 wr
def MrgRel (w4 : World) (s a : List Nat) (x y out : Value) (wr : World) : Prop :=
  ∃ (X Y : Option Addr) (cx cy : Nat) (xs ys o : List Nat), x = .slice X xs.length cx ∧ y = .slice Y ys.length cy ∧ MrgSt w4 wr s a X Y cx cy out xs ys o
def lenV' : Value → Nat
  | .slice _ n _ => n
  | _ => 0
end Go.Proofs.Ytjpcfpffbicpnaa

end
section
set_option linter.unusedVariables false
set_option linter.unusedSimpArgs false
namespace Lec
theorem sa_of_merge {s b : List Nat} (h1 : b.length = (List.range s.length).length) (h2 : b.Pairwise (fun v u => s.drop v < s.drop u)) (h3 : ∀ x, x ∈ b ↔ x ∈ List.range s.length) : Sa.IsSA s b :=
  ⟨by simpa using h1, fun v hv => List.mem_range.1 ((h3 v).1 hv), h2⟩
/-- Symbols that may be, as numbers. -/
def symN (L : List Int) : List Nat := L.map Int.toNat
theorem symN_len (L : List Int) : (symN L).length = L.length := by simp [symN]
end Lec
namespace Go.Proofs.Ytjpcfpffbicpnaa
open Go.RowKit Lec
theorem symN_cells {L : List Int} (h : mayS 512 L = true) : intsV L = natsC (symN L) := by
  unfold intsV natsC symN
  rw [List.map_map]
  apply List.map_congr_left
  intro x hx
  unfold mayS at h
  rw [List.all_eq_true] at h
  have := h x hx
  simp at this
  simp [Int.toNat_of_nonneg this.1]
theorem symN_lt {L : List Int} (h : mayS 512 L = true) : ∀ i, i < (symN L).length → Sa.sy (symN L) i < 512 := by
  intro i hi
  rw [symN_len] at hi
  unfold mayS at h
  rw [List.all_eq_true] at h
  have := h L[i] (List.getElem_mem hi)
  simp at this
  have e : Sa.sy (symN L) i = L[i].toNat := by unfold Sa.sy; rw [Sa.getD_of (v := L[i].toNat)]; unfold symN; rw [List.getElem?_map, List.getElem?_eq_getElem hi]; rfl
  rw [e]; omega

def RefSortPost (w : World) (s : List Nat) (e : Ending) (w' : World) : Prop :=
  ∃ (C : Option Addr) (cc : Nat) (b : List Nat), e = .returned (.slice C s.length cc) ∧ Rds w' C (natsC b) ∧ s.length ≤ cc ∧ (C = none → s.length = 0 ∧ cc = 0) ∧ Sa.IsSA s b ∧ Below w.heap.size w w'

def checkE (L : List Int) : Int := if mayS 512 L = true then (if L.length ≤ 131072 then 0 else 2) else 1

theorem check_any (w : World) (A : Option Addr) (n c : Nat) (L : List Int) (hn : L.length = n) (hm : n ≤ 1000000000) (hr : Rds w A (intsV L)) :
    Calls Try.prog 93 #[.slice A n c] w fun e w' => e = .returned (.int .i64 (checkE L)) ∧ w = w' := by
  have HR := Lib.hid hr
  have HN := Lib.hid hn
  clear hr hn
  generalize hE : checkE L = E
  have HE := Lib.hid hE
  clear hE
  go_enter Try.func93, Try.ntmps93
  go_wp2
  go_loop [7] (fun i => ∃ m : Nat, i = .int .i64 (m : Int) ∧ m ≤ n ∧ Hid (∀ j x, j < m → L[j]? = some x → 0 ≤ x ∧ x < 512)) (fun i => n - (intOf i).toNat)
  case atStart => exact ⟨0, rfl, by omega, Lib.hid (fun j x hj => by omega)⟩
  case round =>
    obtain ⟨m, rfl, hmn, HS⟩ := hrel
    by_cases h1 : m < n
    · have h1i : (m : Int) < (n : Int) := by omega
      obtain ⟨x, hx⟩ : ∃ x, L[m]? = some x := ⟨_, List.getElem?_eq_getElem (by rw [HN.out]; exact h1)⟩
      obtain ⟨a, rfl, cx⟩ := HR.out m _ (intsV_at hx)
      have HX := Lib.hid hx
      clear hx
      have bad : ¬ (0 ≤ x ∧ x < 512) → E = 1 := fun h => by
        have HB : mayS 512 L = false := by
          unfold mayS; rw [List.all_eq_false]
          exact ⟨x, List.mem_iff_getElem?.2 ⟨m, HX.out⟩, by simpa using h⟩
        rw [← HE.out]; unfold checkE; rw [HB]; rfl
      by_cases hx0 : x < 0
      · have HB := Lib.hid (bad (by omega))
        clear bad
        go_wp2
        go_ret
        exact ⟨by rw [HB.out]; rfl, rfl⟩
      · by_cases hxk : 512 ≤ x
        · have HB := Lib.hid (bad (by omega))
          clear bad
          go_wp2
          go_ret
          exact ⟨by rw [HB.out]; rfl, rfl⟩
        · clear bad
          go_wp2
          go_round
          case rel =>
            refine ⟨m + 1, by go_num, by omega, Lib.hid (fun j y hj hy => ?_)⟩
            by_cases e : j = m
            · subst e; rw [HX.out] at hy; injection hy with hy; omega
            · exact HS.out j y (by omega) hy
          case measure => first | (simp [intOf]; done) | (simp [intOf]; omega)
    · obtain rfl : m = n := by omega
      have h1i : ¬ (m : Int) < (m : Int) := by omega
      have hB : mayS 512 L = true := by
        unfold mayS; rw [List.all_eq_true]
        intro x hx
        obtain ⟨j, hj⟩ := List.mem_iff_getElem?.1 hx
        have := HS.out j x (by have := (List.getElem?_eq_some_iff.1 hj).1; have := HN.out; omega) hj
        simpa using this
      have hE2 := HE.out
      unfold checkE at hE2
      rw [hB, HN.out] at hE2
      clear HE hB
      by_cases hl : m ≤ 131072
      · rw [if_pos rfl, if_pos hl] at hE2
        have HE2 := Lib.hid hE2
        have hli : ¬ (131072 : Int) < (m : Int) := by omega
        clear hE2
        go_wp2
        go_ret
        exact ⟨by rw [← HE2.out]; rfl, rfl⟩
      · rw [if_pos rfl, if_neg hl] at hE2
        have HE2 := Lib.hid hE2
        have hli : (131072 : Int) < (m : Int) := by omega
        clear hE2
        go_wp2
        go_ret
        exact ⟨by rw [← HE2.out]; rfl, rfl⟩

def SortPost (w : World) (s : List Nat) (e : Ending) (w' : World) : Prop :=
  ∃ (A : Option Addr) (b : List Nat), e = .returned (.tuple #[.slice A s.length s.length, .int .i64 0]) ∧ w'.ownsRow w.heap.size 3 1 (.slice A s.length s.length) s.length (natsC b) ∧ Sa.IsSA s b ∧ Below w.heap.size w w'

set_option maxRecDepth 100000 in
theorem Sort_good (w : World) (A : Option Addr) (n c : Nat) (L : List Int) (hn : L.length = n) (hm : n ≤ 131072) (hr : Rds w A (intsV L)) (hA : A = none → n = 0 ∧ c = 0) (hs : mayS 512 L = true) :
    Calls Try.prog 75 #[.slice A n c] w (SortPost w (symN L)) := by
  have hce : checkE L = 0 := by unfold checkE; rw [if_pos hs, if_pos (by omega)]
  have hch := check_any w A n c L hn (by omega) hr
  rw [hce] at hch
  have HCH := Lib.hid hch
  have hcells := symN_cells hs
  have hlen := symN_len L
  rw [hn] at hlen
  rw [hcells] at hr
  have HR := Lib.hid hr
  have HLT := Lib.hid (symN_lt hs)
  clear hch hce hr hs hcells hn
  generalize symN L = s at *
  by_cases h0 : n = 0
  · have h0i : ((n : Int) == 0) = true := by rw [beq_iff_eq]; omega
    have hs0 : s = [] := List.eq_nil_of_length_eq_zero (by omega)
    clear h0 hlen
    go_enter Try.func75, Try.ntmps75
    go_wp2_with fail
    refine HCH.out.mono ?_
    rintro e w1 ⟨rfl, rfl⟩
    go_wp2
    go_ret2
    subst hs0
    exact ⟨none, [], rfl, World.ownsRow_nil _ _ _ _, Sa.IsSA.nil, Below.refl _ _⟩
  · have h0i : ((n : Int) == 0) = false := by rw [beq_eq_false_iff_ne]; omega
    subst hlen
    have hbz := Nat.le_refl w.heap.size
    have HA := Lib.hid hA
    clear hA
    go_enter Try.func75, Try.ntmps75
    go_wp2_with fail
    refine HCH.out.mono ?_
    rintro e w1 ⟨rfl, rfl⟩
    go_wp2_with (at_builtin; refine wp_app rfl _ _ 57 rfl w.heap.size 3 (.int .i64 0) 1 8 Try.underlying57 info_int rfl (by decide) (by decide) (.slice none 0 0) 0 [] rfl (World.ownsRow_nil _ _ _ _) A s.length c (natsC s) rfl HA.out (by simp) HR.out (natsC_one _) (by omega) hbz ?_; intro v' w3 hown' hg'; obtain ⟨A6, c6, rfl, _, _, p5, p6, _⟩ := own_rds hown'; have HO := Lib.hid hown'; have HG := Lib.hid hg'; have HR6 := Lib.hid p6; clear hown' hg' p5 p6)
    have hg := HG.out
    have hb3 : Below w.heap.size w w3 := ⟨hg.os, hg.tape, hg.output, hg.size, fun k hk => hg.block k hk (by simp [Value.ownBlock])⟩
    have hso := sorted_any w3 A6 c6 s 512 HR6.out (own_far HO.out (by decide)) hm (by omega) (by omega) HLT.out
    have HSO := Lib.hid hso
    clear hso hg
    refine HSO.out.mono ?_
    rintro e w4 ⟨g, b, rfl, hb, hgg, hbe, hsa⟩
    go_wp2
    go_ret2
    exact ⟨some ⟨g, 0, none⟩, b, rfl, hb.own s.length w.heap.size (Nat.le_trans hb3.size hgg) (by simp only [maxLen]; omega) (by rw [List.length_map, hsa.len]), hsa, hb3.trans (hbe.mono hb3.size)⟩

theorem Sort_bad (w : World) (A : Option Addr) (n c : Nat) (L : List Int) (hn : L.length = n) (hm : n ≤ 1000000000) (hr : Rds w A (intsV L)) (hs : mayS 512 L = false) :
    Calls Try.prog 75 #[.slice A n c] w fun e w' => e = .returned (.tuple #[.slice none 0 0, .int .i64 1]) ∧ w = w' := by
  have hce : checkE L = 1 := by unfold checkE; rw [hs]; rfl
  have hch := check_any w A n c L hn hm hr
  rw [hce] at hch
  have HCH := Lib.hid hch
  clear hch hce hr hs hn
  go_enter Try.func75, Try.ntmps75
  go_wp2_with fail
  refine HCH.out.mono ?_
  rintro e w1 ⟨rfl, rfl⟩
  go_wp2
  go_ret2
  exact ⟨rfl, rfl⟩
end Go.Proofs.Ytjpcfpffbicpnaa

end
section
set_option linter.unusedVariables false
set_option linter.unusedSimpArgs false
namespace Lec
theorem symN_map (s : List Nat) : symN (s.map fun v : Nat => (v : Int)) = s := by
  unfold symN; rw [List.map_map]
  have : (Int.toNat ∘ fun v : Nat => (v : Int)) = id := by funext v; simp
  rw [this, List.map_id]
namespace Sa
theorem sy_at {s : List Nat} {i v : Nat} (h : s[i]? = some v) : sy s i = v := getD_of h
/-- Of rising symbols. -/
theorem sa_up (n : Nat) : IsSA (List.range n) (List.range n) := by
  refine ⟨rfl, fun v hv => by simpa using hv, ?_⟩
  rw [List.pairwise_iff_getElem]
  intro i j hi hj hij
  rw [List.length_range] at hi hj
  simp only [List.getElem_range]
  rw [lt_step _ i j (by simpa using hi) (by simpa using hj), sy_at (List.getElem?_range hi), sy_at (List.getElem?_range hj)]
  exact .inl hij
def downL (n : Nat) : List Nat := (List.range n).map fun i => n - 1 - i
theorem downL_at (n i : Nat) (h : i < n) : (downL n)[i]? = some (n - 1 - i) := by unfold downL; rw [List.getElem?_map, List.getElem?_range h]; rfl
theorem downL_len (n : Nat) : (downL n).length = n := by simp [downL]
theorem downL_get (n i : Nat) (h : i < (downL n).length) : (downL n)[i] = n - 1 - i := by
  have := downL_at n i (by rwa [downL_len] at h)
  rw [List.getElem?_eq_getElem h] at this; injection this
/-- Of falling symbols. -/
theorem sa_down (n : Nat) : IsSA (downL n) (downL n) := by
  refine ⟨rfl, fun v hv => ?_, ?_⟩
  · obtain ⟨i, hi, rfl⟩ := List.mem_iff_getElem.1 hv
    rw [downL_get, downL_len]; rw [downL_len] at hi; omega
  · rw [List.pairwise_iff_getElem]
    intro i j hi hj hij
    rw [downL_get, downL_get]
    rw [downL_len] at hi hj
    rw [lt_step _ (n - 1 - i) (n - 1 - j) (by rw [downL_len]; omega) (by rw [downL_len]; omega), sy_at (downL_at n _ (by omega)), sy_at (downL_at n _ (by omega))]
    left; omega
/-- Of one symbol. -/
theorem rep_lt (c n : Nat) : ∀ (m i : Nat), n - i ≤ m → i < n → ∀ j, j < i → (List.replicate n c).drop i < (List.replicate n c).drop j
  | 0, i, hm, hi, j, hj => by omega
  | m + 1, i, hm, hi, j, hj => by
    have e : ∀ k, k < n → sy (List.replicate n c) k = c := fun k hk => sy_at (by rw [List.getElem?_replicate, if_pos hk])
    rw [lt_step _ i j (by simpa using hi) (by simp; omega), e i hi, e j (by omega)]
    refine .inr ⟨rfl, ?_⟩
    by_cases h : i + 1 < n
    · exact rep_lt c n m (i + 1) (by omega) h (j + 1) (by omega)
    · exact end_lt _ _ _ (by simp; omega) (by simp; omega)
theorem sa_same (c n : Nat) : IsSA (List.replicate n c) (downL n) := by
  refine ⟨by rw [downL_len]; simp, fun v hv => ?_, ?_⟩
  · obtain ⟨i, hi, rfl⟩ := List.mem_iff_getElem.1 hv
    rw [downL_get]; rw [downL_len] at hi; simp; omega
  · rw [List.pairwise_iff_getElem]
    intro i j hi hj hij
    rw [downL_get, downL_get]
    rw [downL_len] at hi hj
    exact rep_lt c n _ _ (Nat.le_refl _) (by omega) _ (by omega)
end Sa
end Lec
namespace Go.Proofs.Ytjpcfpffbicpnaa
open Go.RowKit Lec
theorem mayS_nat {s : List Nat} (h : ∀ x, x ∈ s → x < 512) : mayS 512 (s.map fun v : Nat => (v : Int)) = true := by
  unfold mayS
  rw [List.all_eq_true]
  intro x hx
  rw [List.mem_map] at hx
  obtain ⟨v, hv, rfl⟩ := hx
  have := h v hv
  simp; omega
theorem Sort_nat (w : World) (A : Option Addr) (c : Nat) (s : List Nat) (hm : s.length ≤ 131072) (hr : Rds w A (natsC s)) (hA : A = none → s.length = 0 ∧ c = 0) (hs : ∀ x, x ∈ s → x < 512) :
    Calls Try.prog 75 #[.slice A s.length c] w (SortPost w s) := by
  have h := Sort_good w A s.length c (s.map fun v : Nat => (v : Int)) (by simp) hm (by rw [← natsC_ints]; exact hr) hA (mayS_nat hs)
  rwa [symN_map] at h
end Go.Proofs.Ytjpcfpffbicpnaa

end
section
set_option linter.unusedVariables false
set_option linter.unusedSimpArgs false
namespace Lec.Sa
def rowsL (s b : List Nat) : List Nat := s.length :: b
def outL (s R : List Nat) : List Nat := (R.filter (· != 0)).map (fun v => sy s (v - 1))
def atK (R : List Nat) : Nat → Nat
  | 0 => 0
  | k + 1 => if R[k]? = some 0 then k else atK R k
theorem rowsL_len {s b : List Nat} (h : IsSA s b) : (rowsL s b).length = s.length + 1 := by simp [rowsL, h.len]
theorem rowsL_mem {s b : List Nat} (h : IsSA s b) (v : Nat) : v ∈ rowsL s b ↔ v ≤ s.length := by
  unfold rowsL
  rw [List.mem_cons, h.mem]
  omega
theorem rowsL_nodup {s b : List Nat} (h : IsSA s b) : (rowsL s b).Nodup := by
  unfold rowsL
  rw [List.nodup_cons]
  exact ⟨fun hm => by have := (h.mem _).1 hm; omega, h.nodup⟩
theorem outL_len {s b : List Nat} (h : IsSA s b) : (outL s (rowsL s b)).length = s.length := by
  unfold outL
  rw [List.length_map, ← (rowsL_nodup h).erase_eq_filter, List.length_erase_of_mem ((rowsL_mem h 0).2 (by omega)), rowsL_len h]
  omega
theorem outL_le (s R : List Nat) (k : Nat) : (outL s (R.take k)).length ≤ R.length := by
  unfold outL
  rw [List.length_map]
  have := List.length_filter_le (· != 0) (R.take k)
  rw [List.length_take] at this
  omega
theorem outL_same {s R : List Nat} {k : Nat} (h : R[k]? = some 0) : outL s (R.take (k + 1)) = outL s (R.take k) := by
  obtain ⟨hk, hv⟩ := List.getElem?_eq_some_iff.1 h
  unfold outL
  rw [List.take_succ_eq_append_getElem hk, hv, List.filter_append]
  simp
theorem outL_snoc {s R : List Nat} {k v : Nat} (h : R[k]? = some v) (h0 : v ≠ 0) : outL s (R.take (k + 1)) = outL s (R.take k) ++ [sy s (v - 1)] := by
  obtain ⟨hk, hv⟩ := List.getElem?_eq_some_iff.1 h
  unfold outL
  rw [List.take_succ_eq_append_getElem hk, hv, List.filter_append]
  simp [h0]
theorem atK_same {R : List Nat} {k : Nat} (h : R[k]? = some 0) : atK R (k + 1) = k := by rw [atK, if_pos h]
theorem atK_snoc {R : List Nat} {k v : Nat} (h : R[k]? = some v) (h0 : v ≠ 0) : atK R (k + 1) = atK R k := by rw [atK, if_neg (by rw [h]; simpa using h0)]
theorem atK_le (R : List Nat) : ∀ k, atK R k ≤ k
  | 0 => Nat.le_refl _
  | k + 1 => by rw [atK]; split; omega; have := atK_le R k; omega
end Lec.Sa

end
section
set_option linter.unusedVariables false
set_option linter.unusedSimpArgs false
namespace Go.Proofs.Ytjpcfpffbicpnaa
open Go.RowKit Lec
theorem natsC_snoc (xs : List Nat) (v : Nat) : natsC (xs ++ [v]) = natsC xs ++ [.int .i64 (v : Int)] := by simp [natsC]
def MakePost (w : World) (s : List Nat) (e : Ending) (w' : World) : Prop :=
  ∃ (b : List Nat) (v : Value), e = .returned (.tuple #[v, .int .i64 (Sa.atK (Sa.rowsL s b) (s.length + 1) : Int), .int .i64 0]) ∧ Sa.IsSA s b ∧ w'.ownsRow w.heap.size 3 1 v s.length (natsC (Sa.outL s (Sa.rowsL s b))) ∧ Below w.heap.size w w'
def RefMakePost (w : World) (s : List Nat) (e : Ending) (w' : World) : Prop :=
  ∃ (b : List Nat) (v : Value), e = .returned (.tuple #[v, .int .i64 (Sa.atK (Sa.rowsL s b) (s.length + 1) : Int)]) ∧ Sa.IsSA s b ∧ w'.ownsRow w.heap.size 3 1 v s.length (natsC (Sa.outL s (Sa.rowsL s b))) ∧ Below w.heap.size w w'

theorem Make_bad (w : World) (A : Option Addr) (n c : Nat) (L : List Int) (hn : L.length = n) (hm : n ≤ 1000000000) (hr : Rds w A (intsV L)) (hs : mayS 512 L = false) :
    Calls Try.prog 74 #[.slice A n c] w fun e w' => e = .returned (.tuple #[.slice none 0 0, .int .i64 0, .int .i64 1]) ∧ w = w' := by
  have HS := Lib.hid (Sort_bad w A n c L hn hm hr hs)
  clear hr hs hn
  go_enter Try.func74, Try.ntmps74
  go_wp2_with fail
  refine HS.out.mono ?_
  rintro e w1 ⟨rfl, rfl⟩
  go_wp2
  go_ret3
  exact ⟨rfl, rfl⟩

set_option maxRecDepth 100000 in
set_option maxHeartbeats 4000000 in
theorem Make_any (w : World) (A : Option Addr) (c : Nat) (s : List Nat) (hm : s.length ≤ 131072) (hr : Rds w A (natsC s)) (hA : A = none → s.length = 0 ∧ c = 0) (hs : ∀ x, x ∈ s → x < 512) :
    Calls Try.prog 74 #[.slice A s.length c] w (MakePost w s) := by
  have HR := Lib.hid hr
  have HS := Lib.hid (Sort_nat w A c s hm hr hA hs)
  clear hr hA hs
  go_enter Try.func74, Try.ntmps74
  go_wp2_with fail
  refine HS.out.mono ?_
  rintro e w1 ⟨A1, b, rfl, hown, hsa, hb1⟩
  obtain ⟨A1', c1', he1, p1, p2, p3, p4, _⟩ := own_rds hown
  obtain ⟨rfl, _, rfl⟩ := Value.slice.inj he1
  have HSA := Lib.hid hsa
  have HB1 := Lib.hid hb1
  have HA1 := Lib.hid p4
  have HP3 := Lib.hid p3
  obtain ⟨N, hN⟩ : ∃ N, N = 1 + s.length := ⟨_, rfl⟩
  have HN := Lib.hid hN
  clear hown hsa hb1 p1 p2 p3 p4 he1 HS hN
  have hbl : (natsC b).length = s.length * 1 := by simp [natsC, HSA.out.len]
  go_wp2_with (at_builtin; refine wp_app rfl _ _ 57 rfl w1.heap.size 3 (.int .i64 0) 1 8 Try.underlying57 info_int rfl (by decide) (by decide) (.slice (some ⟨w1.heap.size, 0, none⟩) 1 1) 1 [.int .i64 (s.length : Int)] rfl ((Blk.new w1 #[.int .i64 (s.length : Int)] 3).own 1 _ (Nat.le_refl _) (by decide) rfl) A1 s.length s.length (natsC b) rfl HP3.out hbl (HA1.out.ext ((Below.refl w1.heap.size w1).alloc (Nat.le_refl _) _) (Nat.le_refl _)) (natsC_one _) (by omega) (((Below.refl w1.heap.size w1).alloc (Nat.le_refl _) _).size) ?_; intro v' w3 hown' hg'; rw [← HN.out] at hown'; obtain ⟨A6, c6, rfl, _, _, p5, p6, _⟩ := own_rds hown'; have HG := Lib.hid hg'; have HR6 := Lib.hid p6; clear hown' hg' p5 p6)
  have HB3 : Hid (Below w1.heap.size w1 w3) := Lib.hid (((Below.refl w1.heap.size w1).alloc (Nat.le_refl _) _).grown HG.out (by simp [World.size_alloc]) (fun k hk => by simp [Value.ownBlock] at hk; omega))
  have HX3 := Lib.hid (HB1.out.trans (HB3.out.mono HB1.out.size))
  have HRS := Lib.hid (HR.out.ext HX3.out (Nat.le_refl _))
  obtain ⟨R, hR⟩ : ∃ R, R = Sa.rowsL s b := ⟨_, rfl⟩
  have hcells : [Value.int .i64 (s.length : Int)] ++ natsC b = natsC R := by rw [hR]; rfl
  rw [hcells] at HR6
  have HRR := Lib.hid hR
  have HRN : Hid (R.length = N) := Lib.hid (by rw [hR, Sa.rowsL_len HSA.out, HN.out]; omega)
  have HRM : Hid (∀ v, v ∈ R → v ≤ s.length) := Lib.hid (fun v hv => by rw [hR] at hv; exact (Sa.rowsL_mem HSA.out v).1 hv)
  have hNm : N ≤ 131073 := by have := HN.out; omega
  clear hbl hcells hR HG HB3 HP3 HA1
  go_wp2
  go_loopw [2, 3, 22] (fun v a i wr => ∃ k : Nat, k ≤ N ∧ i = .int .i64 (k : Int) ∧ a = .int .i64 (Sa.atK R k : Int) ∧ Hid (wr.ownsRow w3.heap.size 3 1 v (Sa.outL s (R.take k)).length (natsC (Sa.outL s (R.take k)))) ∧ Hid (Below w3.heap.size w3 wr)) (fun _ _ i _ => N - (intOf i).toNat)
  case atStart => exact ⟨0, by omega, rfl, rfl, World.ownsRow_nil _ _ _ _, Below.refl _ _⟩
  case round =>
    obtain ⟨k, hk, rfl, rfl, HO, HX⟩ := hrel
    by_cases h8 : k < N
    · have h8i : (k : Int) < (N : Int) := by omega
      have hk0 : (0 : Int) ≤ (k : Int) := by omega
      obtain ⟨v, hv⟩ : ∃ v, R[k]? = some v := ⟨_, List.getElem?_eq_getElem (by rw [HRN.out]; exact h8)⟩
      have HV := Lib.hid hv
      have hvn := HRM.out v (List.mem_iff_getElem?.2 ⟨k, hv⟩)
      obtain ⟨ar, rfl, cr⟩ := (HR6.out.ext HX.out (Nat.le_refl _)) k _ (natsC_at hv)
      clear hv
      by_cases hv0 : v = 0
      · have hvi : ((v : Int) == 0) = true := by rw [beq_iff_eq]; omega
        subst hv0
        go_wp2
        go_roundw
        case rel => exact ⟨k + 1, by omega, by go_num, by rw [Sa.atK_same HV.out], by show World.ownsRow _ _ _ _ _ _ _; rw [Sa.outL_same HV.out]; exact HO.out, HX.out⟩
        case measure => first | (simp [intOf]; done) | (simp [intOf]; omega)
      · have hvi : ((v : Int) == 0) = false := by rw [beq_eq_false_iff_ne]; omega
        have hv1 : (0 : Int) ≤ (v : Int) - 1 := by omega
        have hv2 : (v : Int) - 1 < (s.length : Int) := by omega
        have hv3 : ((v : Int) - 1).toNat = v - 1 := by omega
        obtain ⟨asl, rfl, csl⟩ := (HRS.out.ext HX.out (Nat.le_refl _)) (v - 1) _ (natsC_at (v := Sa.sy s (v - 1)) (by rw [List.getElem?_eq_getElem (show v - 1 < s.length by omega)]; simp [Sa.sy, List.getD_eq_getElem?_getD, show v - 1 < s.length by omega]))
        have HL := Lib.hid (Sa.outL_snoc (s := s) HV.out hv0)
        have HA := Lib.hid (Sa.atK_snoc HV.out hv0)
        have hle := Sa.outL_le s R k
        have hRN := HRN.out
        generalize Sa.sy s (v - 1) = x1 at *
        go_wp2_with (at_builtin; refine wp_app1 (w0 := wr) rfl rfl _ _ 57 rfl w3.heap.size 3 (.int .i64 0) 1 8 Try.underlying57 info_int rfl (by decide) (by decide) u2 _ _ rfl HO.out rfl rfl (one_cell1 rfl) (by omega) HX.out.size ?_; intro v' w' hown' hg' hb')
        go_roundw
        case rel => exact ⟨k + 1, by omega, by go_num, by rw [HA.out], by show World.ownsRow _ _ _ _ _ _ _; rw [HL.out, natsC_snoc, List.length_append]; exact hown', HX.out.trans hb'⟩
        case measure => first | (simp [intOf]; done) | (simp [intOf]; omega)
    · have hkN : N = k := by omega
      subst hkN
      have h8i : ¬ (N : Int) < (N : Int) := by omega
      have hfin := HO.out
      rw [List.take_of_length_le (by rw [HRN.out]; exact Nat.le_refl _), HRR.out, Sa.outL_len HSA.out] at hfin
      have HF := Lib.hid hfin
      clear hfin
      go_wp2
      go_ret3
      refine ⟨b, _, ?_, HSA.out, own_lower HF.out HX3.out.size, HX3.out.trans (HX.out.mono HX3.out.size)⟩
      rw [HRR.out, HN.out, Nat.add_comm]
      rfl

def RowsPost (w : World) (s : List Nat) (e : Ending) (w' : World) : Prop :=
  ∃ (b : List Nat) (v : Value), e = .returned v ∧ Sa.IsSA s b ∧ w'.ownsRow w.heap.size 3 1 v (1 + s.length) (natsC (Sa.rowsL s b)) ∧ Below w.heap.size w w'
end Go.Proofs.Ytjpcfpffbicpnaa

end