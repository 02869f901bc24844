/- The walks of what the laws on documents share: copies, tests, answers written over, weights. -/
import Derived.Test.YtjpcfpffbicpnaaPackSeg
import Derived.Test.YtjpcfpffbicpnaaSegP
set_option linter.unusedVariables false
set_option linter.unusedSimpArgs false
namespace Lec
instance : DecidableEq Doc := fun a b => decidable_of_iff (a.id = b.id ∧ a.text = b.text) (by cases a; cases b; simp)
theorem txt_inj {a b : ByteArray} (h : a.toList = b.toList) : a = b := by
  rw [Go.ByteArray.toList_eq, Go.ByteArray.toList_eq] at h
  cases a; cases b
  simp only [ByteArray.mk.injEq]
  exact Array.toList_inj.1 h
def cutD (ds : List Doc) (n : Nat) : Nat := ds.foldl (fun n d => if n < 1048576 then n + d.id.size + d.text.size else n) n
def cutT (ts : List ByteArray) (n : Nat) : Nat := ts.foldl (fun n t => if n < 1048576 then n + t.size else n) n
def weighD (ds : List Doc) : Nat := (ds.map fun d => d.id.size + d.text.size).sum
theorem cutD_big : ∀ (ds : List Doc) {n : Nat}, ¬ n < 1048576 → cutD ds n = n
  | [], n, _ => rfl
  | d :: ds, n, h => by unfold cutD; rw [List.foldl_cons, if_neg h]; exact cutD_big ds h
theorem cutT_big : ∀ (ds : List ByteArray) {n : Nat}, ¬ n < 1048576 → cutT ds n = n
  | [], n, _ => rfl
  | d :: ds, n, h => by unfold cutT; rw [List.foldl_cons, if_neg h]; exact cutT_big ds h
theorem cutD_all : ∀ (ds : List Doc) {n : Nat}, cutD ds n < 1048576 → n + weighD ds = cutD ds n
  | [], n, _ => rfl
  | d :: ds, n, h => by
    unfold cutD at h ⊢
    rw [List.foldl_cons] at h ⊢
    by_cases hn : n < 1048576
    · rw [if_pos hn] at h ⊢
      have := cutD_all ds h
      unfold cutD at this
      rw [← this, show weighD (d :: ds) = d.id.size + d.text.size + weighD ds by simp [weighD]]
      omega
    · rw [if_neg hn] at h
      have := cutD_big ds hn
      unfold cutD at this
      omega
theorem cutT_all : ∀ (ts : List ByteArray) {n : Nat}, cutT ts n < 1048576 → ∀ t ∈ ts, n + t.size ≤ cutT ts n
  | [], n, _ => fun t h => by cases h
  | d :: ds, n, h => fun t ht => by
    unfold cutT at h ⊢
    rw [List.foldl_cons] at h ⊢
    by_cases hn : n < 1048576
    · rw [if_pos hn] at h ⊢
      have := cutT_all ds h
      rcases List.mem_cons.1 ht with rfl | ht
      · cases ds with
        | nil => exact Nat.le_refl _
        | cons x xs => have := this x (by simp); unfold cutT at this; omega
      · have := this t ht
        unfold cutT at this
        omega
    · rw [if_neg hn] at h
      have := cutT_big ds hn
      unfold cutT at this
      omega
theorem size_weigh (ds : List Doc) : Sg.sizeD ds ≤ weighD ds := by
  induction ds with
  | nil => exact Nat.le_refl _
  | cons d ds ih => show Sg.sizeD (d :: ds) ≤ weighD (d :: ds); unfold Sg.sizeD weighD at *; simp at *; omega
theorem cutD_snoc {ds : List Doc} {k n : Nat} (h : k < ds.length) (hn : cutD (ds.take k) n < 1048576) : cutD (ds.take (k + 1)) n = cutD (ds.take k) n + ds[k].id.size + ds[k].text.size := by
  rw [List.take_succ_eq_append_getElem h]
  unfold cutD at *
  rw [List.foldl_append, List.foldl_cons, List.foldl_nil, if_pos hn]
theorem cutT_snoc {ds : List ByteArray} {k n : Nat} (h : k < ds.length) (hn : cutT (ds.take k) n < 1048576) : cutT (ds.take (k + 1)) n = cutT (ds.take k) n + ds[k].size := by
  rw [List.take_succ_eq_append_getElem h]
  unfold cutT at *
  rw [List.foldl_append, List.foldl_cons, List.foldl_nil, if_pos hn]
theorem cutD_end {ds : List Doc} {k n : Nat} (hn : ¬ cutD (ds.take k) n < 1048576) : cutD ds n = cutD (ds.take k) n := by
  conv => lhs; rw [← List.take_append_drop k ds]
  have := cutD_big (ds.drop k) hn
  unfold cutD at *
  rw [List.foldl_append]; exact this
theorem cutT_end {ds : List ByteArray} {k n : Nat} (hn : ¬ cutT (ds.take k) n < 1048576) : cutT ds n = cutT (ds.take k) n := by
  conv => lhs; rw [← List.take_append_drop k ds]
  have := cutT_big (ds.drop k) hn
  unfold cutT at *
  rw [List.foldl_append]; exact this
theorem docs_one (es : List Doc) : ∀ u ∈ docsC es, u.oneCell' = true := fun u hu => by
  obtain ⟨x, _, hx⟩ := List.mem_flatMap.1 hu
  simp [docC] at hx
  rcases hx with rfl | rfl <;> rfl
theorem docs_step {ds : List Doc} {k : Nat} (h : k < ds.length) : docsC (ds.take (k + 1)) = docsC (ds.take k) ++ [.string ds[k].id, .string ds[k].text] := by
  rw [List.take_succ_eq_append_getElem h, docsC_app]; rfl
end Lec
namespace Go.Proofs.Ytjpcfpffbicpnaa
open Go.RowKit Lec
theorem info_doc : (Try.prog.info? 52).map (fun i => (i.zero, i.size, i.bytes)) = some (some (.agg #[.string ⟨#[]⟩, .string ⟨#[]⟩]), 2, 32) := by kernel_rfl
theorem info_hitD : (Try.prog.info? 56).map (fun i => (i.zero, i.size, i.bytes)) = some (some (.agg #[.string ⟨#[]⟩, .int .i64 0]), 2, 24) := by kernel_rfl
theorem num8 (w : World) (e : Int) : Calls Try.prog 23 #[.int .i64 e] w fun r w' => r = .returned (.int .i64 e) ∧ w = w' := by
  go_enter Try.func23, Try.ntmps23
  go_wp2
  go_ret
  exact ⟨rfl, rfl⟩
set_option maxRecDepth 100000 in
theorem CopyDocs_any (w : World) (A : Option Addr) (n c : Nat) (ds : List Doc) (hn : ds.length = n) (hm : n ≤ 1000000) (hr : Rds w A (docsC ds)) :
    Calls Try.prog 27 #[.slice A n c] w fun e w' => ∃ v, e = .returned v ∧ w'.ownsRow w.heap.size 52 2 v n (docsC ds) ∧ Below w.heap.size w w' := by
  have HR := Lib.hid hr
  have HN := Lib.hid hn
  clear hr hn
  go_enter Try.func27, Try.ntmps27
  go_wp2
  go_loopw [3, 4] (fun v i wr => ∃ k : Nat, k ≤ n ∧ i = .int .i64 (k : Int) ∧ Hid (wr.ownsRow w.heap.size 52 2 v k (docsC (ds.take k))) ∧ Hid (Below w.heap.size w wr)) (fun _ i _ => n - (intOf i).toNat)
  case atStart => exact ⟨0, by omega, rfl, World.ownsRow_nil _ _ _ _, Lib.hid (Below.refl _ _)⟩
  case round =>
    obtain ⟨k, hk, rfl, HO, HX⟩ := hrel
    by_cases h8 : k < n
    · have h8i : (k : Int) < (n : Int) := by omega
      have hk' : k < ds.length := by rw [HN.out]; exact h8
      obtain ⟨a, rfl, c0, c1⟩ := docs_cells (HR.out.ext HX.out (Nat.le_refl _)) k hk'
      have HL := Lib.hid (docs_step hk')
      have hs := HX.out.size
      obtain ⟨v, rfl⟩ : ∃ z, z = u3 := ⟨_, rfl⟩
      generalize ds[k] = d at *
      go_wp2_with (at_builtin; refine wp_app1 (w0 := wr) rfl rfl _ _ 32 rfl w.heap.size 52 (.agg #[.string ⟨#[]⟩, .string ⟨#[]⟩]) 2 32 Try.underlying32 info_doc rfl (by decide) (by decide) _ k _ rfl HO.out rfl rfl (by intro u hu; simp at hu; rcases hu with rfl | rfl <;> rfl) (by omega) hs ?_; intro v' w' hown' hg' hb')
      go_roundw
      case rel => exact ⟨k + 1, by omega, by go_num, by show World.ownsRow _ _ _ _ _ _ _; rw [HL.out]; exact hown', HX.out.trans hb'⟩
      case measure => simp [intOf]; omega
    · obtain rfl : k = n := by omega
      have h8i : ¬ (k : Int) < (k : Int) := by omega
      have HTA : Hid (ds.take k = ds) := List.take_of_length_le (by rw [HN.out]; exact Nat.le_refl _)
      rw [HTA.out] at HO
      go_wp2
      go_ret
      exact ⟨_, rfl, HO.out, HX.out⟩
set_option maxRecDepth 100000 in
set_option maxHeartbeats 1000000 in
theorem spoilD_any (w : World) (base : Nat) (v : Value) (n : Nat) (ys : List Value) (hn : ys.length = n * 2) (hm : n ≤ 1000000) (hbase : base ≤ w.heap.size) (hown : w.ownsRow base 52 2 v n ys) :
    Calls Try.prog 40 #[v] w fun e w' => e = .returned (.tuple #[]) ∧ w.grownBy w' v.ownBlock := by
  rcases hown.2 with ⟨rfl, rfl⟩ | ⟨g, cap, cur, rfl, _, _, _, _, _, _⟩
  · have HO := Lib.hid hown
    clear hown
    go_enter Try.func40, Try.ntmps40
    go_wp2
    go_loop [2] (fun i => i = .int .i64 0) (fun _ => 0)
    case atStart => rfl
    case round =>
      subst hrel
      go_wp2_with (at_builtin; refine wp_app1 (w0 := w) rfl rfl _ _ 32 rfl base 52 (.agg #[.string ⟨#[]⟩, .string ⟨#[]⟩]) 2 32 Try.underlying32 info_doc rfl (by decide) (by decide) _ 0 _ rfl HO.out rfl rfl (by intro u hu; simp at hu; rcases hu with rfl | rfl <;> rfl) (by omega) hbase ?_; intro v' w' hown' hg' hb')
      go_end0
      refine ⟨rfl, hg'.os, hg'.tape, hg'.output, ?_, ?_⟩
      · have := hg'.size; simp at this; omega
      · intro k hk hne
        exact (hg'.block k (by simp; omega) hne).trans (Below.heap_alloc _ _ _ hk)
  · have HO := Lib.hid hown
    have HN := Lib.hid hn
    clear hown hn
    go_enter Try.func40, Try.ntmps40
    go_wp2
    go_loopw [2] (fun i wr => ∃ (k : Nat) (cs : List Value), i = .int .i64 (k : Int) ∧ k ≤ n ∧ Hid (cs.length = n * 2) ∧ Hid (wr.ownsRow base 52 2 (.slice (some ⟨g, 0, none⟩) n cap) n cs) ∧ Hid (w.grownBy wr (some g))) (fun i _ => n - (intOf i).toNat)
    case atStart => exact ⟨0, ys, rfl, by omega, HN.out, HO, World.grownBy.refl _ _⟩
    case round =>
      obtain ⟨k, cs, rfl, hk, HCS, HR, HG⟩ := hrel
      by_cases h1 : k < n
      · have h1i : (k : Int) < (n : Int) := by omega
        have hk0 : (0 : Int) ≤ (k : Int) := by omega
        have hl : k * 2 + 1 < cs.length := by rw [HCS.out]; omega
        have c0 : wr.cell? ⟨g, k * 2, none⟩ = some (cs[k * 2]'(by omega)) := by rw [HR.out.cellAt (k * 2) (by omega)]; exact List.getElem?_eq_getElem _
        have c1 : wr.cell? ⟨g, k * 2 + 1, none⟩ = some (cs[k * 2 + 1]'hl) := by rw [HR.out.cellAt (k * 2 + 1) (by omega)]; exact List.getElem?_eq_getElem _
        have f0 := HR.out.frozenAt (k * 2)
        have f1 := HR.out.frozenAt (k * 2 + 1)
        have s0 := HR.out.stored (k * 2) (.string ⟨#[115, 112, 111, 105, 108, 116]⟩)
        have s1 := s0.1.stored (k * 2 + 1) (.string ⟨#[]⟩)
        have HS1 := Lib.hid s1.1
        have HS2 := Lib.hid (World.grownBy.trans HG.out (World.grownBy.trans s0.2 s1.2))
        have HCS2 : Hid (((cs.set (k * 2) (.string ⟨#[115, 112, 111, 105, 108, 116]⟩)).set (k * 2 + 1) (.string ⟨#[]⟩)).length = n * 2) := by show _ = _; simp only [List.length_set]; exact HCS.out
        clear s0 s1
        generalize cs[k * 2]'(by omega) = v0 at *
        generalize cs[k * 2 + 1]'hl = v1 at *
        clear hl
        go_wp2
        exact ⟨⟨k + 1, _, by go_num, by omega, HCS2, HS1, HS2⟩, by simp [intOf]; omega⟩
      · obtain rfl : k = n := by omega
        have h1i : ¬ (k : Int) < (k : Int) := by omega
        have hwr : base ≤ wr.heap.size := Nat.le_trans hbase HG.out.size
        go_wp2_with (at_builtin; refine wp_app1 (w0 := wr) rfl rfl _ _ 32 rfl base 52 (.agg #[.string ⟨#[]⟩, .string ⟨#[]⟩]) 2 32 Try.underlying32 info_doc rfl (by decide) (by decide) _ k _ rfl HR.out rfl rfl (by intro u hu; simp at hu; rcases hu with rfl | rfl <;> rfl) (by omega) hwr ?_; intro v' w' hown' hg' hb')
        go_end0
        refine ⟨rfl, ?_⟩
        have h2 : wr.grownBy w' (some g) := by
          refine ⟨hg'.os, hg'.tape, hg'.output, ?_, ?_⟩
          · have := hg'.size; simp at this; omega
          · intro k hk hne
            exact (hg'.block k (by simp; omega) hne).trans (Below.heap_alloc _ _ _ hk)
        exact World.grownBy.trans HG.out h2
set_option maxRecDepth 100000 in
set_option maxHeartbeats 1000000 in
theorem spoilH_any (w : World) (base : Nat) (v : Value) (n : Nat) (ys : List Value) (hn : ys.length = n * 2) (hm : n ≤ 1000000) (hbase : base ≤ w.heap.size) (hown : w.ownsRow base 56 2 v n ys) :
    Calls Try.prog 25 #[v] w fun e w' => e = .returned (.tuple #[]) ∧ w.grownBy w' v.ownBlock := by
  rcases hown.2 with ⟨rfl, rfl⟩ | ⟨g, cap, cur, rfl, _, _, _, _, _, _⟩
  · have HO := Lib.hid hown
    clear hown
    go_enter Try.func25, Try.ntmps25
    go_wp2
    go_loop [2] (fun i => i = .int .i64 0) (fun _ => 0)
    case atStart => rfl
    case round =>
      subst hrel
      go_wp2_with (at_builtin; refine wp_app1 (w0 := w) rfl rfl _ _ 45 rfl base 56 (.agg #[.string ⟨#[]⟩, .int .i64 0]) 2 24 Try.underlying45 info_hitD rfl (by decide) (by decide) _ 0 _ rfl HO.out rfl rfl (by intro u hu; simp at hu; rcases hu with rfl | rfl <;> rfl) (by omega) hbase ?_; intro v' w' hown' hg' hb')
      go_end0
      refine ⟨rfl, hg'.os, hg'.tape, hg'.output, ?_, ?_⟩
      · have := hg'.size; simp at this; omega
      · intro k hk hne
        exact (hg'.block k (by simp; omega) hne).trans (Below.heap_alloc _ _ _ hk)
  · have HO := Lib.hid hown
    have HN := Lib.hid hn
    clear hown hn
    go_enter Try.func25, Try.ntmps25
    go_wp2
    go_loopw [2] (fun i wr => ∃ (k : Nat) (cs : List Value), i = .int .i64 (k : Int) ∧ k ≤ n ∧ Hid (cs.length = n * 2) ∧ Hid (wr.ownsRow base 56 2 (.slice (some ⟨g, 0, none⟩) n cap) n cs) ∧ Hid (w.grownBy wr (some g))) (fun i _ => n - (intOf i).toNat)
    case atStart => exact ⟨0, ys, rfl, by omega, HN.out, HO, World.grownBy.refl _ _⟩
    case round =>
      obtain ⟨k, cs, rfl, hk, HCS, HR, HG⟩ := hrel
      by_cases h1 : k < n
      · have h1i : (k : Int) < (n : Int) := by omega
        have hk0 : (0 : Int) ≤ (k : Int) := by omega
        have hl : k * 2 + 1 < cs.length := by rw [HCS.out]; omega
        have c0 : wr.cell? ⟨g, k * 2, none⟩ = some (cs[k * 2]'(by omega)) := by rw [HR.out.cellAt (k * 2) (by omega)]; exact List.getElem?_eq_getElem _
        have c1 : wr.cell? ⟨g, k * 2 + 1, none⟩ = some (cs[k * 2 + 1]'hl) := by rw [HR.out.cellAt (k * 2 + 1) (by omega)]; exact List.getElem?_eq_getElem _
        have f0 := HR.out.frozenAt (k * 2)
        have f1 := HR.out.frozenAt (k * 2 + 1)
        have s0 := HR.out.stored (k * 2) (.string ⟨#[115, 112, 111, 105, 108, 116]⟩)
        have s1 := s0.1.stored (k * 2 + 1) (.int .i64 0)
        have HS1 := Lib.hid s1.1
        have HS2 := Lib.hid (World.grownBy.trans HG.out (World.grownBy.trans s0.2 s1.2))
        have HCS2 : Hid (((cs.set (k * 2) (.string ⟨#[115, 112, 111, 105, 108, 116]⟩)).set (k * 2 + 1) (.int .i64 0)).length = n * 2) := by show _ = _; simp only [List.length_set]; exact HCS.out
        clear s0 s1
        generalize cs[k * 2]'(by omega) = v0 at *
        generalize cs[k * 2 + 1]'hl = v1 at *
        clear hl
        go_wp2
        exact ⟨⟨k + 1, _, by go_num, by omega, HCS2, HS1, HS2⟩, by simp [intOf]; omega⟩
      · obtain rfl : k = n := by omega
        have h1i : ¬ (k : Int) < (k : Int) := by omega
        have hwr : base ≤ wr.heap.size := Nat.le_trans hbase HG.out.size
        go_wp2_with (at_builtin; refine wp_app1 (w0 := wr) rfl rfl _ _ 45 rfl base 56 (.agg #[.string ⟨#[]⟩, .int .i64 0]) 2 24 Try.underlying45 info_hitD rfl (by decide) (by decide) _ k _ rfl HR.out rfl rfl (by intro u hu; simp at hu; rcases hu with rfl | rfl <;> rfl) (by omega) hwr ?_; intro v' w' hown' hg' hb')
        go_end0
        refine ⟨rfl, ?_⟩
        have h2 : wr.grownBy w' (some g) := by
          refine ⟨hg'.os, hg'.tape, hg'.output, ?_, ?_⟩
          · have := hg'.size; simp at this; omega
          · intro k hk hne
            exact (hg'.block k (by simp; omega) hne).trans (Below.heap_alloc _ _ _ hk)
        exact World.grownBy.trans HG.out h2
set_option maxRecDepth 100000 in
theorem EqHits_any (w : World) (A : Option Addr) (n c : Nat) (xs : List Sg.Hit) (hn : xs.length = n) (hr : Rds w A (hitsC xs)) (B : Option Addr) (m d : Nat) (ys : List Sg.Hit) (hm : ys.length = m) (hs : Rds w B (hitsC ys)) (hlim : n ≤ 9223372036854775807) :
    Calls Try.prog 24 #[.slice A n c, .slice B m d] w fun e w' => e = .returned (.bool (decide (xs = ys))) ∧ ∃ q, w.drewN q = w' := by
  by_cases hnm : n = m
  · have hnm1 : ((n : Int) != (m : Int)) = false := by rw [hnm]; simp
    have HR := Lib.hid hr
    have HS := Lib.hid hs
    have HN := Lib.hid hn
    have HM := Lib.hid hm
    have HE := Lib.hid hnm
    clear hr hs hn hm hnm
    go_enter Try.func24, Try.ntmps24
    go_wp2
    go_loopw [5] (fun i wr => ∃ k : Nat, k ≤ n ∧ i = .int .i64 k ∧ Hid (xs.take k = ys.take k) ∧ ∃ q, w.drewN q = wr) (fun i _ => n - (intOf i).toNat)
    case atStart => exact ⟨0, by omega, rfl, by show _ = _; simp, 0, rfl⟩
    case round =>
      obtain ⟨k, hk, rfl, HT, q, rfl⟩ := hrel
      by_cases h8 : k < n
      · have hk' : k < xs.length := by rw [HN.out]; exact h8
        have hk2 : k < ys.length := by rw [HM.out, ← HE.out]; exact h8
        obtain ⟨a, rfl, g0, g1⟩ := hits_cells HR.out k hk'
        obtain ⟨b, rfl, f0, f1⟩ := hits_cells HS.out k hk2
        have hi1 : (k : Int) < m := by have := HE.out; omega
        have HTX := Lib.hid (List.take_succ_eq_append_getElem hk')
        have HTY := Lib.hid (List.take_succ_eq_append_getElem hk2)
        have HNX : Hid (xs = ys → xs[k] = ys[k]) := fun h => by subst h; rfl
        generalize xs[k] = x at *
        generalize ys[k] = y at *
        obtain ⟨xi, xt⟩ := x
        obtain ⟨yi, yt⟩ := y
        dsimp only at g0 g1 f0 f1
        by_cases h1 : xi = yi
        · subst h1
          by_cases h2 : xt = yt
          · subst h2
            go_wp2
            go_quiet (fail)
            go_wp2
            go_roundw
            case rel => exact ⟨k + 1, by omega, by go_num, by show _ = _; rw [HTX.out, HTY.out, HT.out], by first | exact drawn2 _ _ _ | exact drawn1 _ _⟩
            case measure => simp [intOf]; omega
          · have h2' := (show ¬ (xt : Int) = (yt : Int) from fun h => h2 (by omega))
            have hne : Hid (xs ≠ ys) := fun h => by have := HNX.out h; simp at this; exact h2 this
            clear h2
            go_wp2
            go_quiet (fail)
            go_wp2
            go_ret
            exact ⟨by rw [decide_eq_false hne.out]; rfl, by first | exact drawn2 _ _ _ | exact drawn1 _ _⟩
        · have h1' : ¬ xi.toList = yi.toList := fun h => h1 (txt_inj h)
          have hne : Hid (xs ≠ ys) := fun h => by have := HNX.out h; simp at this; exact h1 this.1
          clear h1
          go_wp2
          go_quiet (fail)
          go_wp2
          go_ret
          exact ⟨by rw [decide_eq_false hne.out]; rfl, by first | exact drawn2 _ _ _ | exact drawn1 _ _⟩
      · obtain rfl : k = n := by omega
        have hfin : Hid (xs = ys) := by
          have h1 := HT.out
          rwa [List.take_of_length_le (by rw [HN.out]; exact Nat.le_refl _), List.take_of_length_le (by rw [HM.out, ← HE.out]; exact Nat.le_refl _)] at h1
        go_wp2
        go_ret
        exact ⟨by rw [decide_eq_true hfin.out]; rfl, drawn1 _ _⟩
  · have hnm1 : ((n : Int) != (m : Int)) = true := by rw [bne_iff_ne]; omega
    have hne : Hid (xs ≠ ys) := fun h => hnm (by rw [← hn, ← hm, h])
    clear hn hm hnm
    go_enter Try.func24, Try.ntmps24
    go_wp2
    go_ret
    exact ⟨by rw [decide_eq_false hne.out]; rfl, 0, rfl⟩
set_option maxRecDepth 100000 in
theorem EqDocs_any (w : World) (A : Option Addr) (n c : Nat) (xs : List Doc) (hn : xs.length = n) (hr : Rds w A (docsC xs)) (B : Option Addr) (m d : Nat) (ys : List Doc) (hm : ys.length = m) (hs : Rds w B (docsC ys)) (hlim : n ≤ 9223372036854775807) :
    Calls Try.prog 37 #[.slice A n c, .slice B m d] w fun e w' => e = .returned (.bool (decide (xs = ys))) ∧ ∃ q, w.drewN q = w' := by
  by_cases hnm : n = m
  · have hnm1 : ((n : Int) != (m : Int)) = false := by rw [hnm]; simp
    have HR := Lib.hid hr
    have HS := Lib.hid hs
    have HN := Lib.hid hn
    have HM := Lib.hid hm
    have HE := Lib.hid hnm
    clear hr hs hn hm hnm
    go_enter Try.func37, Try.ntmps37
    go_wp2
    go_loopw [5] (fun i wr => ∃ k : Nat, k ≤ n ∧ i = .int .i64 k ∧ Hid (xs.take k = ys.take k) ∧ ∃ q, w.drewN q = wr) (fun i _ => n - (intOf i).toNat)
    case atStart => exact ⟨0, by omega, rfl, by show _ = _; simp, 0, rfl⟩
    case round =>
      obtain ⟨k, hk, rfl, HT, q, rfl⟩ := hrel
      by_cases h8 : k < n
      · have hk' : k < xs.length := by rw [HN.out]; exact h8
        have hk2 : k < ys.length := by rw [HM.out, ← HE.out]; exact h8
        obtain ⟨a, rfl, g0, g1⟩ := docs_cells HR.out k hk'
        obtain ⟨b, rfl, f0, f1⟩ := docs_cells HS.out k hk2
        have hi1 : (k : Int) < m := by have := HE.out; omega
        have HTX := Lib.hid (List.take_succ_eq_append_getElem hk')
        have HTY := Lib.hid (List.take_succ_eq_append_getElem hk2)
        have HNX : Hid (xs = ys → xs[k] = ys[k]) := fun h => by subst h; rfl
        generalize xs[k] = x at *
        generalize ys[k] = y at *
        obtain ⟨xi, xt⟩ := x
        obtain ⟨yi, yt⟩ := y
        dsimp only at g0 g1 f0 f1
        by_cases h1 : xi = yi
        · subst h1
          by_cases h2 : xt = yt
          · subst h2
            go_wp2
            go_quiet (fail)
            go_wp2
            go_roundw
            case rel => exact ⟨k + 1, by omega, by go_num, by show _ = _; rw [HTX.out, HTY.out, HT.out], by first | exact drawn2 _ _ _ | exact drawn1 _ _⟩
            case measure => simp [intOf]; omega
          · have h2' := (show ¬ xt.toList = yt.toList from fun h => h2 (txt_inj h))
            have hne : Hid (xs ≠ ys) := fun h => by have := HNX.out h; simp at this; exact h2 this
            clear h2
            go_wp2
            go_quiet (fail)
            go_wp2
            go_ret
            exact ⟨by rw [decide_eq_false hne.out]; rfl, by first | exact drawn2 _ _ _ | exact drawn1 _ _⟩
        · have h1' : ¬ xi.toList = yi.toList := fun h => h1 (txt_inj h)
          have hne : Hid (xs ≠ ys) := fun h => by have := HNX.out h; simp at this; exact h1 this.1
          clear h1
          go_wp2
          go_quiet (fail)
          go_wp2
          go_ret
          exact ⟨by rw [decide_eq_false hne.out]; rfl, by first | exact drawn2 _ _ _ | exact drawn1 _ _⟩
      · obtain rfl : k = n := by omega
        have hfin : Hid (xs = ys) := by
          have h1 := HT.out
          rwa [List.take_of_length_le (by rw [HN.out]; exact Nat.le_refl _), List.take_of_length_le (by rw [HM.out, ← HE.out]; exact Nat.le_refl _)] at h1
        go_wp2
        go_ret
        exact ⟨by rw [decide_eq_true hfin.out]; rfl, drawn1 _ _⟩
  · have hnm1 : ((n : Int) != (m : Int)) = true := by rw [bne_iff_ne]; omega
    have hne : Hid (xs ≠ ys) := fun h => hnm (by rw [← hn, ← hm, h])
    clear hn hm hnm
    go_enter Try.func37, Try.ntmps37
    go_wp2
    go_ret
    exact ⟨by rw [decide_eq_false hne.out]; rfl, 0, rfl⟩
set_option maxRecDepth 100000 in
theorem DocWeight_any (w : World) (A : Option Addr) (n c : Nat) (ds : List Doc) (hn : ds.length = n) (hm : n ≤ 4611686018427387903) (hsz : ∀ d ∈ ds, d.id.size ≤ 1152921504606846976 ∧ d.text.size ≤ 1152921504606846976) (hr : Rds w A (docsC ds)) :
    Calls Try.prog 46 #[.slice A n c] w fun e w' => e = .returned (.int .i64 (cutD ds n : Int)) ∧ ∃ q, w.drewN q = w' := by
  have HR := Lib.hid hr
  have HN := Lib.hid hn
  have HSZ := Lib.hid hsz
  clear hr hn hsz
  go_enter Try.func46, Try.ntmps46
  go_wp2
  go_loopw [3, 4] (fun z i wr => ∃ (k q : Nat), i = .int .i64 (k : Int) ∧ z = .int .i64 (cutD (ds.take k) n : Int) ∧ k ≤ n ∧ cutD (ds.take k) n ≤ 4611686018427387903 ∧ Hid (w.drewN q = wr)) (fun _ i _ => n - (intOf i).toNat)
  case atStart => exact ⟨0, 0, rfl, rfl, by omega, hm, rfl⟩
  case round =>
    obtain ⟨k, q, rfl, rfl, hk, hcm, HW⟩ := hrel
    obtain rfl := HW.out
    by_cases h1 : k < n
    · have h1i : (k : Int) < (n : Int) := by omega
      have hk' : k < ds.length := by rw [HN.out]; exact h1
      by_cases h2 : cutD (ds.take k) n < 1048576
      · obtain ⟨a, rfl, hc0, hc1⟩ := docs_cells HR.out k hk'
        have HS := Lib.hid (cutD_snoc (n := n) hk' h2)
        have hds := HSZ.out _ (List.getElem_mem hk')
        generalize ds[k] = d at *
        generalize cutD (ds.take k) n = z at *
        have h2i : (z : Int) < 1048576 := by omega
        have hn0 : (0 : Int) ≤ (k : Int) := by omega
        have hle : cutD (ds.take (k + 1)) n ≤ 4611686018427387903 := by rw [HS.out]; omega
        have HLE := Lib.hid hle
        have v1 : IntKind.i64.wrap ((z : Int) + (d.id.size : Int)) = (z : Int) + (d.id.size : Int) := wrap_idB (by omega)
        have v2 : IntKind.i64.wrap ((z : Int) + (d.id.size : Int) + (d.text.size : Int)) = (z : Int) + (d.id.size : Int) + (d.text.size : Int) := wrap_idB (by omega)
        clear hle
        go_wp2
        go_quiet (fail)
        clear v1 v2
        go_wp2
        go_roundw
        case rel => exact ⟨k + 1, _, by go_num, by rw [HS.out]; go_num, by omega, HLE.out, by first | rfl | (show _ = _; rw [World.drewN_drewN])⟩
        case measure => first | (simp [intOf]; done) | (simp [intOf]; omega)
      · have HE := Lib.hid (cutD_end h2)
        generalize cutD (ds.take k) n = z at *
        have h2i : ¬ (z : Int) < 1048576 := by omega
        go_wp2
        go_ret
        exact ⟨by rw [HE.out]; rfl, q, rfl⟩
    · obtain rfl : k = n := by omega
      have h1i : ¬ (k : Int) < (k : Int) := by omega
      have HTA : Hid (ds.take k = ds) := List.take_of_length_le (by rw [HN.out]; exact Nat.le_refl _)
      rw [HTA.out]
      go_wp2
      go_ret
      exact ⟨rfl, q, rfl⟩
set_option maxRecDepth 100000 in
theorem TextWeight_any (w : World) (A : Option Addr) (n c : Nat) (ds : List ByteArray) (hn : ds.length = n) (hm : n ≤ 4611686018427387903) (hsz : ∀ d ∈ ds, d.size ≤ 1152921504606846976) (hr : Rds w A (ds.map Value.string)) :
    Calls Try.prog 47 #[.slice A n c] w fun e w' => e = .returned (.int .i64 (cutT ds n : Int)) ∧ w = w' := by
  have HR := Lib.hid hr
  have HN := Lib.hid hn
  have HSZ := Lib.hid hsz
  clear hr hn hsz
  go_enter Try.func47, Try.ntmps47
  go_wp2
  go_loopw [3, 4] (fun z i wr => ∃ (k : Nat), i = .int .i64 (k : Int) ∧ z = .int .i64 (cutT (ds.take k) n : Int) ∧ k ≤ n ∧ cutT (ds.take k) n ≤ 4611686018427387903 ∧ Hid (w = wr)) (fun _ i _ => n - (intOf i).toNat)
  case atStart => exact ⟨0, rfl, rfl, by omega, hm, rfl⟩
  case round =>
    obtain ⟨k, rfl, rfl, hk, hcm, HW⟩ := hrel
    obtain rfl := HW.out
    by_cases h1 : k < n
    · have h1i : (k : Int) < (n : Int) := by omega
      have hk' : k < ds.length := by rw [HN.out]; exact h1
      by_cases h2 : cutT (ds.take k) n < 1048576
      · obtain ⟨a, rfl, hc0⟩ := HR.out.map k hk'
        have HS := Lib.hid (cutT_snoc (n := n) hk' h2)
        have hds := HSZ.out _ (List.getElem_mem hk')
        generalize ds[k] = d at *
        generalize cutT (ds.take k) n = z at *
        have h2i : (z : Int) < 1048576 := by omega
        have hle : cutT (ds.take (k + 1)) n ≤ 4611686018427387903 := by rw [HS.out]; omega
        have HLE := Lib.hid hle
        clear hle
        go_wp2
        go_roundw
        case rel => exact ⟨k + 1, by go_num, by rw [HS.out]; go_num, by omega, HLE.out, by first | trivial | rfl⟩
        case measure => first | (simp [intOf]; done) | (simp [intOf]; omega)
      · have HE := Lib.hid (cutT_end h2)
        generalize cutT (ds.take k) n = z at *
        have h2i : ¬ (z : Int) < 1048576 := by omega
        go_wp2
        go_ret
        exact ⟨by rw [HE.out]; rfl, rfl⟩
    · obtain rfl : k = n := by omega
      have h1i : ¬ (k : Int) < (k : Int) := by omega
      have HTA : Hid (ds.take k = ds) := List.take_of_length_le (by rw [HN.out]; exact Nat.le_refl _)
      rw [HTA.out]
      go_wp2
      go_ret
      exact ⟨rfl, rfl⟩
end Go.Proofs.Ytjpcfpffbicpnaa
