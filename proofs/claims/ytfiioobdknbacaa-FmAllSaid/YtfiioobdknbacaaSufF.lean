/- The walk of suffix.sorted. -/
import Derived.Test.YtfiioobdknbacaaSufE
set_option linter.unusedVariables false
set_option linter.unusedSimpArgs false
namespace Lec
open Go Go.RowKit
abbrev ptrsC (ps : List Nat) : List Value := ps.map fun p => Value.pointer (some ⟨p, 0, none⟩)
def lenV : Value → Nat
  | .slice _ n _ => n
  | _ => 0
end Lec
namespace Go.Proofs.Ytfiioobdknbacaa
open Go.RowKit Lec
theorem eq_nil (w : World) : (Go.binOp .eql 45 (.slice none 0 0) (.slice none 0 0)).run Try.prog w = .ok (.bool true) w := by kernel_rfl
theorem ne_nil (w : World) (a : Addr) (n c : Nat) : (Go.binOp .eql 45 (.slice (some a) n c) (.slice none 0 0)).run Try.prog w = .ok (.bool false) w := by kernel_rfl
theorem info_fr : (Try.prog.info? 172).map (fun i => (i.zero, i.size, i.bytes)) = some (some (.pointer none), 1, 8) := by kernel_rfl
/-- All frames that wait are in memory. -/
def Frms (w : World) (st : List (Nat × List Nat × Nat)) : Prop := ∀ f, f ∈ st → Frm w f.1 f.2.1 f.2.2 ∧ FrmTy w f.1
theorem Frms.ext {w w' : World} {st : List (Nat × List Nat × Nat)} {B : Nat} (h : Frms w st) (hb : Below B w w') (hB : w.heap.size ≤ B) : Frms w' st := fun f hf => ⟨(h f hf).1.ext hb hB, (h f hf).2.ext hb hB⟩
theorem Frms.grown {w w' : World} {st : List (Nat × List Nat × Nat)} {row : Option Nat} (h : Frms w st) (hg : w.grownBy w' row) (hr : ∀ k, row = some k → ∃ cs fr, w.heap[k]? = some (.cells cs 172 fr)) : Frms w' st := fun f hf => ⟨((h f hf).2.grown (h f hf).1 hg hr).2, ((h f hf).2.grown (h f hf).1 hg hr).1⟩
theorem own_row {w : World} {base n : Nat} {e : TypeId} {v : Value} {xs : List Value} (h : w.ownsRow base e 1 v n xs) : ∀ k, v.ownBlock = some k → ∃ cs fr, w.heap[k]? = some (.cells cs e fr) := by
  intro k hk
  rcases h.2 with ⟨rfl, _⟩ | ⟨g, cap, cur, rfl, _, hg, _⟩
  · simp [Value.ownBlock] at hk
  · have : g = k := by simpa [Value.ownBlock] using hk
    subst this
    exact ⟨cur, (0, 0), hg⟩
abbrev stC (st : List (Nat × List Nat × Nat)) : List Value := ptrsC (st.reverse.map (·.1))
theorem stC_cons (f : Nat × List Nat × Nat) (st : List (Nat × List Nat × Nat)) : stC (f :: st) = stC st ++ [.pointer (some ⟨f.1, 0, none⟩)] := by simp [stC, ptrsC]

/-- While no answer is there. -/
structure SoA (w wr : World) (root cs : List Nat) (K : Nat) (st : List (Nat × List Nat × Nat)) (A : Option Addr) (V : Value) : Prop where
  chain : Sa.Chain st cs root
  pos : 0 < cs.length
  len : cs.length ≤ 131072
  kk : K ≤ 200000
  sym : ∀ i, i < cs.length → Sa.sy cs i < K
  rd : Rds wr A (natsC cs)
  far : Far wr A
  fr : Frms wr st
  own : wr.ownsRow w.heap.size 172 1 V st.length (stC st)
  bel : Below w.heap.size w wr
  dep : st.length + cs.length ≤ 131072
/-- An answer is there; wf: the world as the frames last saw it. -/
structure SoB (w wr : World) (root cs av : List Nat) (st : List (Nat × List Nat × Nat)) (B : Option Addr) (g : Nat) (wf : World) : Prop where
  chain : Sa.Chain st cs root
  sa : Sa.IsSA cs av
  fr : Frms wf st
  rd : Rds wf B (stC st)
  bel : Below w.heap.size w wf
  bel2 : Below wf.heap.size wf wr
  hg : wf.heap.size ≤ g
  blk : Blk wr g 3 (natsC av)
  dep : st.length ≤ 131072

def SortedPost (w : World) (s : List Nat) (e : Ending) (w' : World) : Prop :=
  ∃ (g : Nat) (b : List Nat), e = .returned (.slice (some ⟨g, 0, none⟩) s.length s.length) ∧ Blk w' g 3 (natsC b) ∧ w.heap.size ≤ g ∧ Below w.heap.size w w' ∧ Sa.IsSA s b

def SoRel (w : World) (root : List Nat) (s0 k0 v5 v6 : Value) (wr : World) : Prop :=
  ∃ (cs : List Nat) (st : List (Nat × List Nat × Nat)) (A : Option Addr) (c K : Nat), s0 = .slice A cs.length c ∧ k0 = .int .i64 (K : Int) ∧
    ((v6 = .slice none 0 0 ∧ SoA w wr root cs K st A v5) ∨ (∃ (av : List Nat) (B : Option Addr) (c5 g : Nat) (wf : World), v6 = .slice (some ⟨g, 0, none⟩) cs.length cs.length ∧ v5 = .slice B st.length c5 ∧ st.length ≤ c5 ∧ SoB w wr root cs av st B g wf))

def SoRel2 (w : World) (root : List Nat) (v5 v6 : Value) (wr : World) : Prop :=
  ∃ (cs av : List Nat) (st : List (Nat × List Nat × Nat)) (B : Option Addr) (c5 g : Nat) (wf : World), v6 = .slice (some ⟨g, 0, none⟩) cs.length cs.length ∧ v5 = .slice B st.length c5 ∧ st.length ≤ c5 ∧ SoB w wr root cs av st B g wf

/-- s[:k]: one equation, wherever s lies. -/
theorem slice_hi {P : Program} {t e : TypeId} (ht : P.underlying t = some (.slice e)) (hsz : ∃ z, ∀ w, (Go.sizeOf e).run P w = Result.ok z w) (A : Option Addr) (n c k : Nat) (hk : k ≤ c) (w : World) :
    (Instr.sliceAt t (.slice A n c) none (some (.int .i64 (k : Int))) none).run P w = .ok (.slice A k c) w := by
  have he : P.elem t = e := by unfold Program.elem; rw [ht]
  obtain ⟨z, hz⟩ := hsz
  rw [run_sliceAt_slice w t _ _ _ _ (by rw [he]; exact ht), run_slice_h w t A n c (by rw [he]; exact ht) .i64 k (by omega) (by omega), he, hz]
  simp [Result.andThen, sliced]
  intro h
  cases A <;> rfl

set_option maxRecDepth 100000 in
set_option maxHeartbeats 4000000 in
theorem sorted_any (w : World) (A : Option Addr) (c : Nat) (s : List Nat) (K : Nat) (hr : Rds w A (natsC s)) (hfar : Far w A) (hm : s.length ≤ 131072) (hpos : 0 < s.length) (hk : K ≤ 200000) (hks : ∀ i, i < s.length → Sa.sy s i < K) :
    Calls Try.prog 96 #[.slice A s.length c, .int .i64 (K : Int)] w (SortedPost w s) := by
  have hA0 : SoA w w s s K [] A (.slice none 0 0) := ⟨rfl, hpos, hm, hk, hks, hr, hfar, fun f hf => by simp at hf, World.ownsRow_nil _ _ _ _, Below.refl _ _, by simpa using hm⟩
  clear hr hm hpos hk hks hfar
  have hen := eq_nil
  have hnn := ne_nil
  go_enter Try.func96, Try.ntmps96
  go_wp2
  go_loopw [0, 1, 5, 6] (fun s0 k0 v5 v6 wr => SoRel w s s0 k0 v5 v6 wr) (fun s0 _ _ _ _ => lenV s0)
  case atStart => exact ⟨s, [], A, c, K, rfl, rfl, .inl ⟨rfl, hA0⟩⟩
  case round =>
    clear hA0
    obtain ⟨cs, st, A, c, K, rfl, rfl, hrel⟩ := hrel
    rcases hrel with ⟨rfl, hA⟩ | ⟨av, B, c5, g, wf, rfl, rfl, h5, hB⟩
    · have hcl := hA.len
      have hcp := hA.pos
      have hkk := hA.kk
      go_wp2_with fail
      refine (fresh_any wr A cs.length c cs K rfl hcl hkk hA.sym hA.rd hA.far).mono ?_
      rintro e w1 ⟨p, rfl, hf, hb1, hty⟩
      have hbel1 := hA.bel.trans (hb1.mono hA.bel.size)
      have hbz := hbel1.size
      have ho1 := own_ext hA.own hb1 (Nat.le_refl _)
      have HO := Lib.hid ho1
      have HFR1 := Lib.hid (hA.fr.ext hb1 (Nat.le_refl _))
      have HROW := Lib.hid (own_row ho1)
      have hdep := hA.dep
      clear ho1
      go_upto_region 6 with (at_builtin; refine wp_app1 (w0 := w1) rfl rfl _ _ 171 rfl w.heap.size 172 (.pointer none) 1 8 Try.underlying171 info_fr rfl (by decide) (by decide) u5 st.length _ rfl HO.out rfl rfl (one_cell1 rfl) (by omega) hbz ?_; intro v' w2 hown' hg' hb'; have HO2 := Lib.hid hown'; have HB2 := Lib.hid hb'; have HG2 := Lib.hid hg'; clear hown' hg' hb')
      have hal : Below w1.heap.size w1 (w1.alloc (.cells #[.pointer (some ⟨p, 0, none⟩)] 172)) := (Below.refl _ _).alloc (Nat.le_refl _) _
      have hrow := own_row (own_ext HO.out hal (Nat.le_refl _))
      have hfr2 : Frms w2 ((p, cs, K) :: st) := Frms.grown (fun f hf' => by
        rcases List.mem_cons.1 hf' with rfl | hf'
        · exact ⟨hf.ext hal (Nat.le_refl _), hty.ext hal (Nat.le_refl _)⟩
        · exact (HFR1.out.ext hal (Nat.le_refl _)) f hf') HG2.out hrow
      have hbel2 := hbel1.trans HB2.out
      have ho2 := HO2.out
      rw [show (#[Value.pointer (some ⟨p, 0, none⟩)] : Array Value).toList = [.pointer (some ⟨p, 0, none⟩)] from rfl, ← stC_cons (p, cs, K) st] at ho2
      have HO3 := Lib.hid ho2
      have HFR2 := Lib.hid hfr2
      have hsym := hA.sym
      have hch := hA.chain
      clear hal hrow hfr2 ho2 HO2 HO HROW HFR1 HG2 HB2 hf hty hA hb1 hbz
      go_wp2_with fail
      refine (names_any w2 p cs K (HFR2.out _ (List.mem_cons_self ..)).1 hcl hkk hcp hsym).mono ?_
      rintro e w3 ⟨g, l, o, rfl, hbl, hg, hb3, hll, hord, hln⟩
      have hhalf := Sa.lmsL_half cs
      have hnamed := hord.named hll hln
      have hbel3 := hbel2.trans (hb3.mono hbel2.size)
      have HO4 := Lib.hid (own_ext HO3.out hb3 (Nat.le_refl _))
      have HFR3 := Lib.hid (HFR2.out.ext hb3 (Nat.le_refl _))
      have hchain : Sa.Chain ((p, cs, K) :: st) l s := ⟨hnamed, hcp, hcl, hkk, hsym, hch⟩
      have hdep2 : ((p, cs, K) :: st).length + l.length ≤ 131072 := by rw [List.length_cons, hll]; omega
      have hnm := Sa.nm_le cs o ((Sa.lmsL cs).length - 1)
      have HBD := Lib.hid (hord.bound hll hln)
      obtain ⟨A7, c7, he7, hc7, _, _, r7, _⟩ := own_rds HO4.out
      subst he7
      have HR7 := Lib.hid r7
      have HLL := Lib.hid hll
      have HC7 : Hid (st.length + 1 ≤ c7) := Lib.hid hc7
      clear HO3 HFR2 hb3 hbel2 r7 hc7
      by_cases hM : (Sa.lmsL cs).length = 0
      · have hM1 : (((Sa.lmsL cs).length : Int) == 0) = true := by rw [beq_iff_eq]; omega
        have hl0 : l = [] := List.eq_nil_of_length_eq_zero (by rw [hll, hM])
        have hlt : l.length < cs.length := by rw [hll]; omega
        have HLT := Lib.hid hlt
        rw [hM] at hll HLL
        rw [hM] at hM1 ⊢
        clear hM hnm hln hord hll hlt hnamed hhalf hdep
        go_wp2
        subst hl0
        refine ⟨⟨[], (p, cs, K) :: st, some ⟨g, 0, none⟩, 0, Sa.nm cs o 0 + 1, rfl, by go_num, .inr ⟨[], A7, c7, w3.heap.size, w3, rfl, rfl, HC7.out, hchain, Sa.IsSA.nil, HFR3.out, HR7.out, hbel3, (Below.refl _ _).alloc (Nat.le_refl _) _, Nat.le_refl _, Blk.newL _ _ _ _ _ rfl rfl, by omega⟩⟩, ?_⟩
        show lenV (.slice _ _ _) < lenV (.slice _ _ _); unfold lenV; exact hcp
      · by_cases hN : Sa.nm cs o ((Sa.lmsL cs).length - 1) + 1 = (Sa.lmsL cs).length
        · have hln2 : ∀ i v : Nat, o[i]? = some v → l[Sa.idx cs v]? = some i := fun i v hv => by
            have h1 := hln i v hv
            have h2 := (List.getElem?_eq_some_iff.1 hv).1
            have h3 := hord.len
            rwa [Sa.Ord.diff ((Sa.lmsL cs).length - 1) (by omega) (by omega) i (by omega)] at h1
          have HINJ := Lib.hid (hord.inj hll hln2)
          have HLN2 := Lib.hid hln2
          have HORD := Lib.hid hord
          rw [hN] at HBD
          have hM1 : (((Sa.lmsL cs).length : Int) == 0) = false := by rw [beq_eq_false_iff_ne]; omega
          have hN1 : (((Sa.nm cs o ((Sa.lmsL cs).length - 1) + 1 : Nat) : Int) == ((Sa.lmsL cs).length : Int)) = true := by rw [beq_iff_eq]; omega
          have hmk := mk_ints (Sa.lmsL cs).length (by omega)
          have hMb : (Sa.lmsL cs).length ≤ 131072 := by omega
          have hMpos : 0 < (Sa.lmsL cs).length := by omega
          have hlt : l.length < cs.length := by rw [hll]; omega
          have HLT := Lib.hid hlt
          rw [hN] at hN1 ⊢
          clear hM hN hnm hln hln2 hord hll hlt hnamed hhalf
          generalize hMM : (Sa.lmsL cs).length = M at *
          have HMM := Lib.hid hMM
          clear hMM
          go_wp2
          obtain ⟨w4, hw4⟩ : ∃ w4, w4 = w3.alloc (.cells (Array.replicate M (.int .i64 0)) 3) := ⟨_, rfl⟩
          have hb4 : Blk w4 w3.heap.size 3 (natsC (List.replicate M 0)) := by rw [hw4]; exact Blk.newL _ _ _ _ _ rfl (by simp [natsC])
          have hbe4 : Below w3.heap.size w3 w4 := by rw [hw4]; exact (Below.refl _ _).alloc (Nat.le_refl _) _
          rw [← hw4]
          clear hw4 hmk hN1
          generalize hG : w3.heap.size = G at hb4 hbe4 ⊢
          go_loopw [43] (fun i wx => ∃ (m : Nat) (av : List Nat), i = .int .i64 (m : Int) ∧ m ≤ M ∧ Hid (av.length = M) ∧ Hid (∀ j c, j < m → l[j]? = some c → av[c]? = some j) ∧ Blk wx G 3 (natsC av) ∧ Below G w3 wx) (fun i _ => M - (intOf i).toNat)
          case atStart => exact ⟨0, _, rfl, by omega, Lib.hid (by simp), Lib.hid (fun j c hj => by omega), hb4, hbe4⟩
          case round =>
            clear hb4 hbe4
            obtain ⟨m, av, rfl, hmM, HAL, HAV, hba, hbe⟩ := hrel
            by_cases hm2 : m < M
            · have hmi : (m : Int) < (M : Int) := by omega
              have hml : m < l.length := by rw [HLL.out]; exact hm2
              have hc : l[m]? = some l[m] := List.getElem?_eq_getElem hml
              have hcM : l[m] < M := by
                have := HBD.out m hml
                unfold Sa.sy at this
                rwa [Sa.getD_of hc] at this
              generalize l[m] = x at *
              have vl := (hbl.extlt hbe (by rw [← hG]; exact hbl.lt)).cell (natsC_at hc)
              obtain ⟨y, hy⟩ : ∃ y, av[x]? = some y := ⟨_, List.getElem?_eq_getElem (by rw [HAL.out]; exact hcM)⟩
              have va := hba.cell (natsC_at hy)
              have fa := hba.froz x
              have hb5 := hba.set x (.int .i64 (m : Int))
              rw [← natsC_set] at hb5
              have HB5 := Lib.hid hb5
              have HC := Lib.hid hc
              have hxi : (x : Int) < (M : Int) := by omega
              have hx0 : (0 : Int) ≤ (x : Int) := by omega
              clear hc hy hb5
              go_wp2
              go_roundw
              case rel =>
                refine ⟨m + 1, _, by go_num, by omega, Lib.hid (by rw [List.length_set]; exact HAL.out), Lib.hid (fun j c hj hc => ?_), HB5.out, hbe.setCell (Nat.le_refl _) _⟩
                rw [List.getElem?_set]
                by_cases e : j = m
                · subst e
                  rw [HC.out] at hc; injection hc with hc
                  subst hc
                  simp [HAL.out, hcM]
                · rw [if_neg (fun k => by subst k; exact e (HINJ.out j m _ hc HC.out))]
                  exact HAV.out j c (by omega) hc
              case measure => first | (simp [intOf]; done) | (simp [intOf]; omega)
            · obtain rfl : m = M := by omega
              have hmi : ¬ (m : Int) < (m : Int) := by omega
              have hsa : Sa.IsSA l av := HORD.out.simple (by rw [HLL.out, HMM.out]) HLN2.out (by rw [HAL.out, HLL.out]) (fun i v hv => HAV.out _ i (by rw [← HMM.out]; exact Sa.idx_lt ((HORD.out.mem v).1 (List.mem_iff_getElem?.2 ⟨i, hv⟩))) (HLN2.out i v hv))
              go_wp2
              go_roundw
              case rel =>
                refine ⟨l, (p, cs, K) :: st, some ⟨g, 0, none⟩, m, m, by rw [HLL.out], rfl, .inr ⟨av, A7, c7, G, w3, by rw [HLL.out], rfl, HC7.out, hchain, hsa, HFR3.out, HR7.out, hbel3, ?_, Nat.le_of_eq hG, hba, by omega⟩⟩
                rw [hG]; exact hbe
              case measure => show lenV (.slice _ _ _) < lenV (.slice _ _ _); unfold lenV; rw [← HLL.out]; exact HLT.out
        · have hM1 : (((Sa.lmsL cs).length : Int) == 0) = false := by rw [beq_eq_false_iff_ne]; omega
          have hN1 : (((Sa.nm cs o ((Sa.lmsL cs).length - 1) + 1 : Nat) : Int) == ((Sa.lmsL cs).length : Int)) = false := by rw [beq_eq_false_iff_ne]; omega
          have hsoa : SoA w w3 s l (Sa.nm cs o ((Sa.lmsL cs).length - 1) + 1) ((p, cs, K) :: st) (some ⟨g, 0, none⟩) (.slice A7 (st.length + 1) c7) := ⟨hchain, by rw [hll]; omega, by rw [hll]; omega, by omega, HBD.out, hbl.rds, Blk.farA hbl (by decide), HFR3.out, HO4.out, hbel3, hdep2⟩
          have HS := Lib.hid hsoa
          have hlt : l.length < cs.length := by rw [hll]; omega
          have HLT := Lib.hid hlt
          clear hsoa hll hlt hnm hM hN hchain hnamed hord hln hbel3 hdep2 hch hsym HO4 HFR3 HBD hbl hhalf
          generalize Sa.nm cs o ((Sa.lmsL cs).length - 1) + 1 = k' at *
          go_wp2
          go_roundw
          case rel => exact ⟨l, _, _, _, _, by rw [HLL.out], rfl, .inl ⟨rfl, HS.out⟩⟩
          case measure => show lenV (.slice _ _ _) < lenV (.slice _ _ _); unfold lenV; rw [← HLL.out]; exact HLT.out
    · clear hen
      go_wp2
      clear hnn
      go_loopw [5, 6] (fun v5 v6 wr => SoRel2 w s v5 v6 wr) (fun v5 _ _ => lenV v5)
      case atStart => exact ⟨cs, av, st, B, c5, g, wf, rfl, rfl, h5, hB⟩
      case round =>
        clear hB h5
        obtain ⟨cs, av, st, B, c5, g, wf, rfl, rfl, h5, hB⟩ := hrel
        cases st with
        | nil =>
          go_wp2
          go_ret
          have hc : cs = s := hB.chain
          subst hc
          exact ⟨g, av, rfl, hB.blk, Nat.le_trans hB.bel.size hB.hg, hB.bel.trans (hB.bel2.mono hB.bel.size), hB.sa⟩
        | cons f st =>
          obtain ⟨p, s', K'⟩ := f
          obtain ⟨hnamed, hpos, hsl, hKb, hsym, hch⟩ := hB.chain
          have hdep := hB.dep
          have hc5 : st.length + 1 ≤ c5 := h5
          rw [List.length_cons] at hdep ⊢
          have hrd := hB.rd
          rw [stC_cons] at hrd
          obtain ⟨bs, rfl, cst⟩ := hrd st.length (.pointer (some ⟨p, 0, none⟩)) (by rw [List.getElem?_append_right (by simp [stC])]; simp [stC])
          have hR2 : Rds wf (some bs) (stC st) := fun i u hu => hrd i u (by rw [List.getElem?_append_left (List.getElem?_eq_some_iff.1 hu).1]; exact hu)
          have HR2 := Lib.hid hR2
          have cst' := cell_ext hB.bel2 (Nat.le_refl _) cst
          have hsl61 := slice_hi (P := Try.prog) (t := 171) (e := 172) Try.underlying171 ⟨1, fun w => by kernel_rfl⟩ (some bs) (st.length + 1) c5 st.length (by omega)
          have hfr := (hB.fr _ (List.mem_cons_self ..)).1
          have hfrs : Frms wf st := fun f hf => hB.fr f (List.mem_cons_of_mem _ hf)
          have HFS := Lib.hid hfrs
          have HFP := Lib.hid hfr
          have hsa := hB.sa
          have hal := hsa.len
          have hbl := hB.blk
          have hbel2 := hB.bel2
          have hbel := hB.bel
          have hgg := hB.hg
          have HK4 : Hid (∃ a4 c4, wf.cell? ⟨p, 4, none⟩ = some (.slice a4 (Sa.lmsL s').length c4) ∧ Rds wf a4 (natsC (Sa.lmsL s'))) := Lib.hid (by
            obtain ⟨A, c, a1, a2, a3, a4, c4, a5, xs3, h0, h1, h2, h3, h4, h5, r0, r1, r2, r3, r4, r5, h6, h7⟩ := hfr.out
            exact ⟨a4, c4, h4, r4⟩)
          have hll := hnamed.len
          have hhalf := Sa.lmsL_half s'
          have hcb : 2 * cs.length ≤ s'.length := by omega
          have HLLN := Lib.hid hll
          have HAL0 := Lib.hid hal
          obtain ⟨a4, c4, k4, r4⟩ := HK4.out
          have HR4 := Lib.hid r4
          have HKK4 := Lib.hid k4
          clear hrd hR2 hB hfr hfrs cst h5 hll hal hhalf r4 k4 HK4
          go_wp2
          clear hsl61 cst'
          have hAB : av.length = cs.length := HAL0.out
          go_loopw [71] (fun i wx => ∃ (m : Nat) (al : List Nat), i = .int .i64 (m : Int) ∧ m ≤ cs.length ∧ Hid (al.length = cs.length) ∧ Hid (∀ j x, av[j]? = some x → al[j]? = some (if j < m then (Sa.lmsL s').getD x 0 else x)) ∧ Blk wx g 3 (natsC al) ∧ Below wf.heap.size wf wx) (fun i _ => cs.length - (intOf i).toNat)
          case atStart => exact ⟨0, av, rfl, by omega, HAL0, Lib.hid (fun j x h => by rw [if_neg (by omega)]; exact h), hbl, hbel2⟩
          case round =>
            clear hbl hbel2 hAB
            obtain ⟨m, al, rfl, hmM, HAL, HAV, hba, hbe⟩ := hrel
            by_cases hm2 : m < cs.length
            · have hmi : (m : Int) < (cs.length : Int) := by omega
              have hm0 : (0 : Int) ≤ (m : Int) := by omega
              have hml : m < av.length := by rw [HAL0.out]; exact hm2
              have hx : av[m]? = some av[m] := List.getElem?_eq_getElem hml
              have hxl := hsa.lt _ (List.getElem_mem hml)
              generalize av[m] = x at *
              have hax := HAV.out m x hx
              rw [if_neg (Nat.lt_irrefl _)] at hax
              have va := hba.cell (natsC_at hax)
              have fa := hba.froz m
              have hxL : x < (Sa.lmsL s').length := by rw [← HLLN.out]; exact hxl
              have hD : (Sa.lmsL s')[x]? = some ((Sa.lmsL s').getD x 0) := by rw [List.getElem?_eq_getElem hxL]; simp [List.getD_eq_getElem?_getD, hxL]
              have k4 := cell_ext hbe (Nat.le_refl _) HKK4.out
              obtain ⟨ad, rfl, cd⟩ := (HR4.out.ext hbe (Nat.le_refl _)) x _ (natsC_at hD)
              have HD := Lib.hid hD
              have HX := Lib.hid hx
              generalize (Sa.lmsL s').getD x 0 = y at *
              have hxi : (x : Int) < ((Sa.lmsL s').length : Int) := by omega
              have hx0 : (0 : Int) ≤ (x : Int) := by omega
              have hb5 := hba.set m (.int .i64 (y : Int))
              rw [← natsC_set] at hb5
              have HB5 := Lib.hid hb5
              clear hD hx hax hb5
              go_wp2
              go_roundw
              case rel =>
                refine ⟨m + 1, _, by go_num, by omega, Lib.hid (by rw [List.length_set]; exact HAL.out), Lib.hid (fun j u hj => ?_), HB5.out, hbe.setCell hgg _⟩
                rw [List.getElem?_set]
                by_cases e : m = j
                · subst e
                  rw [HX.out] at hj; injection hj with hj
                  subst hj
                  rw [if_pos rfl, if_pos (by rw [HAL.out]; exact hm2), if_pos (Nat.lt_succ_self _)]
                  rw [List.getD_eq_getElem?_getD, HD.out]; rfl
                · rw [if_neg e, HAV.out j u hj]
                  by_cases e2 : j < m
                  · rw [if_pos e2, if_pos (by omega)]
                  · rw [if_neg e2, if_neg (by omega)]
              case measure => first | (simp [intOf]; done) | (simp [intOf]; omega)
            · obtain rfl : m = cs.length := by omega
              have hmi : ¬ (cs.length : Int) < (cs.length : Int) := by omega
              have hback : al = Sa.back s' av := List.ext_getElem? (fun j => by
                by_cases hj : j < cs.length
                · have hj2 : j < av.length := by rw [HAL0.out]; exact hj
                  rw [HAV.out j _ (List.getElem?_eq_getElem hj2), if_pos hj]
                  unfold Sa.back
                  rw [List.getElem?_map, List.getElem?_eq_getElem hj2]; rfl
                · rw [List.getElem?_eq_none (by rw [HAL.out]; omega), List.getElem?_eq_none (by unfold Sa.back; rw [List.length_map, HAL0.out]; omega)])
              subst hback
              have hIND := induce_any wr p s' (Sa.back s' av) K' (HFP.out.ext hbe (Nat.le_refl _)) hsl hKb (Sa.layB hpos hsym hnamed hsa) (some ⟨g, 0, none⟩) cs.length hba.rds
              rw [HAL.out] at hIND
              have HIND := Lib.hid hIND
              have HORD := Lib.hid (hnamed.back hsa).2.2
              clear hIND
              go_wp2_with fail
              refine HIND.out.mono ?_
              rintro e w7 ⟨g2, b, rfl, hb7, hg7, hI7, hbe7⟩
              clear HIND
              have HSA := Lib.hid (hI7.sorted HORD.out)
              clear hI7
              go_wp2
              go_roundw
              case rel => exact ⟨s', b, st, some bs, c5, g2, wf, rfl, rfl, by omega, hch, HSA.out, HFS.out, HR2.out, hbel, hbe.trans (hbe7.mono hbe.size), Nat.le_trans hbe.size hg7, hb7, by omega⟩
              case measure => exact Nat.lt_succ_self st.length
end Go.Proofs.Ytfiioobdknbacaa
