/- What a law's argument reads as: lists, pairs, numbers; from the form's own reading. No program stands here. -/
import Derived.Test.YtdbpgcaoakoojaaBase
import Derived.SizedLaws
set_option linter.unusedVariables false
set_option linter.unusedSimpArgs false
namespace Lec
open Go Go.RowKit

/-- How cells read as an x. -/
structure Rep (α : Type) where
  n : Nat
  R : World → List Value → α → Prop
  ext : ∀ {w w' : World} {cs : List Value} {x : α} {B : Nat}, R w cs x → Below B w w' → w.heap.size ≤ B → R w' cs x

/-- One cell that is a value of its own. -/
def Rep.one {α : Type} (f : α → Value) (p : α → Prop) : Rep α := ⟨1, fun _ cs x => cs = [f x] ∧ p x, fun h _ _ => h⟩

/-- A slice's elements, one behind the other. -/
def Row {α : Type} (r : Rep α) (w : World) (A : Option Addr) (xs : List α) : Prop :=
  ∀ i (h : i < xs.length), ∃ a cs, A = some a ∧ cs.length = r.n ∧ (∀ j v, cs[j]? = some v → w.cell? (a.add (i * r.n + j)) = some v) ∧ r.R w cs xs[i]

theorem Row.ext {α : Type} {r : Rep α} {w w' : World} {A : Option Addr} {xs : List α} {B : Nat} (h : Row r w A xs) (hb : Below B w w') (hB : w.heap.size ≤ B) : Row r w' A xs := fun i hi => by
  obtain ⟨a, cs, e, hl, hc, hr⟩ := h i hi
  exact ⟨a, cs, e, hl, fun j v hv => cell_ext hb hB (hc j v hv), r.ext hr hb hB⟩

theorem Row.rds {α : Type} {f : α → Value} {p : α → Prop} {w : World} {A : Option Addr} {xs : List α} (h : Row (Rep.one f p) w A xs) : Rds w A (xs.map f) := by
  intro i v hv
  obtain ⟨hi, e⟩ := List.getElem?_eq_some_iff.1 hv
  obtain ⟨a, cs, e1, _, hc, e2, _⟩ := h i (by simpa using hi)
  subst e2
  have := hc 0 _ rfl
  refine ⟨a, e1, ?_⟩
  simp only [Rep.one, Nat.mul_one, Nat.add_zero] at this
  rw [this, ← e]; simp

theorem Row.all {α : Type} {f : α → Value} {p : α → Prop} {w : World} {A : Option Addr} {xs : List α} (h : Row (Rep.one f p) w A xs) : ∀ x ∈ xs, p x := by
  intro x hx
  obtain ⟨i, hi, e⟩ := List.getElem_of_mem hx
  obtain ⟨_, _, _, _, _, _, hp⟩ := h i hi
  exact e ▸ hp

def Rep.slice {α : Type} (r : Rep α) (bytes : Nat) : Rep (List α) :=
  ⟨1, fun w cs xs => ∃ A c, cs = [.slice A xs.length c] ∧ xs.length ≤ c ∧ c ≤ maxLen ∧ (A = none → xs.length = 0 ∧ c = 0) ∧ c * bytes ≤ reachBytes ∧ Row r w A xs,
   fun ⟨A, c, h1, h2, h3, h4, h5, h6⟩ hb hB => ⟨A, c, h1, h2, h3, h4, h5, h6.ext hb hB⟩⟩

def Rep.pair {α β : Type} (r : Rep α) (s : Rep β) : Rep (α × β) :=
  ⟨r.n + s.n, fun w cs x => ∃ c1 c2, cs = c1 ++ c2 ∧ c1.length = r.n ∧ r.R w c1 x.1 ∧ s.R w c2 x.2,
   fun ⟨c1, c2, h1, h0, h2, h3⟩ hb hB => ⟨c1, c2, h1, h0, r.ext h2 hb hB, s.ext h3 hb hB⟩⟩

abbrev Rep.int (k : IntKind) : Rep Int := Rep.one (Value.int k) (fun x => (Lit.int k x).wf = true)
abbrev Rep.u8 : Rep UInt8 := Rep.one (fun x => Value.int .u8 (x.toNat : Int)) (fun _ => True)
abbrev Rep.u32 : Rep Nat := Rep.one (fun x => Value.int .u32 (x : Int)) (fun x => x < 4294967296)
abbrev Rep.u64 : Rep Nat := Rep.one (fun x => Value.int .u64 (x : Int)) (fun x => x < 18446744073709551616)
abbrev Rep.bool : Rep Bool := Rep.one Value.bool (fun _ => True)
abbrev Rep.str : Rep ByteArray := Rep.one Value.string (fun s => s.size ≤ reachBytes)

/-- Data of this type reads so. -/
structure Rep.Of {α : Type} (r : Rep α) (P : Program) (t : TypeId) : Prop where
  out : ∀ (H : Type) (enc : TypeId × Value → H) (w : World) (base : Nat) (spare : Nat → Bool) (held : Bool) (fuel : Nat) (cs : List Value) (d : DataW H) (ps : List MemPlace),
    (∀ b, spare b = true) → DataW.trod enc P w base spare held fuel t cs = some (d, ps) → (∀ n ∈ d.weights P t, n ≤ reachBytes) → ∃ x, r.R w cs x

section
variable {P : Program} {t : TypeId}

theorem Rep.int_of {k : IntKind} (ht : P.underlying t = some (.int k)) : (Rep.int k).Of P t := by
  constructor
  intro H enc w base spare held fuel cs d ps _ h _
  obtain ⟨n, rfl, _, hw⟩ := DataW.trod_int ht h
  exact ⟨n, rfl, hw⟩

theorem Rep.of_int {k : IntKind} {α : Type} (r : Rep α) (ht : P.underlying t = some (.int k)) (hr : ∀ w n, (Lit.int k n).wf = true → ∃ x, r.R w [.int k n] x) : r.Of P t := by
  constructor
  intro H enc w base spare held fuel cs d ps hs h hz
  obtain ⟨n, rfl, _, hw⟩ := DataW.trod_int ht h
  exact hr w n hw

theorem Rep.u8_of (ht : P.underlying t = some (.int .u8)) : Rep.u8.Of P t := Rep.of_int _ ht (fun w n h => by
  have hb : 0 ≤ n ∧ n < 256 := by simp [Lit.wf, IntKind.min, IntKind.max, IntKind.bits, IntKind.signed] at h; omega
  refine ⟨UInt8.ofNat n.toNat, ?_, trivial⟩
  have : (UInt8.ofNat n.toNat).toNat = n.toNat := UInt8.toNat_ofNat_of_lt' (by show n.toNat < 256; omega)
  show _ = [Value.int .u8 _]
  rw [this, Int.toNat_of_nonneg hb.1])
theorem Rep.u32_of (ht : P.underlying t = some (.int .u32)) : Rep.u32.Of P t := Rep.of_int _ ht (fun w n h => by
  have hb : 0 ≤ n ∧ n < 4294967296 := by simp [Lit.wf, IntKind.min, IntKind.max, IntKind.bits, IntKind.signed] at h; omega
  refine ⟨n.toNat, ?_, by omega⟩
  show _ = [Value.int .u32 _]
  rw [Int.toNat_of_nonneg hb.1])
theorem Rep.u64_of (ht : P.underlying t = some (.int .u64)) : Rep.u64.Of P t := Rep.of_int _ ht (fun w n h => by
  have hb : 0 ≤ n ∧ n < 18446744073709551616 := by simp [Lit.wf, IntKind.min, IntKind.max, IntKind.bits, IntKind.signed] at h; omega
  refine ⟨n.toNat, ?_, by omega⟩
  show _ = [Value.int .u64 _]
  rw [Int.toNat_of_nonneg hb.1])

theorem Rep.bool_of (ht : P.underlying t = some .bool) : Rep.bool.Of P t := by
  constructor
  intro H enc w base spare held fuel cs d ps _ h _
  obtain ⟨b, rfl, _⟩ := DataW.trod_bool ht h
  exact ⟨b, rfl, trivial⟩

theorem Rep.str_of (ht : P.underlying t = some .string) : Rep.str.Of P t := by
  constructor
  intro H enc w base spare held fuel cs d ps _ h hz
  obtain ⟨s, rfl, e, _⟩ := DataW.trod_string ht h
  obtain ⟨rfl, _⟩ := Prod.mk.inj e
  have := hz s.data.toList.length (by simp [DataW.weights])
  exact ⟨s, rfl, by rw [Array.length_toList] at this; exact this⟩

theorem weightsAll_mem {H : Type} {e : TypeId} : ∀ {ds : List (DataW H)} {d : DataW H}, d ∈ ds → ∀ n ∈ d.weights P e, n ∈ DataW.weightsAll P e ds
  | d0 :: ds, d, hd, n, hn => by
    rw [DataW.weightsAll, List.mem_append]
    rcases List.mem_cons.1 hd with rfl | h
    · exact .inl hn
    · exact .inr (weightsAll_mem h n hn)

theorem pick_list {α : Type} {R : Nat → α → Prop} : ∀ (n : Nat), (∀ i, i < n → ∃ x, R i x) → ∃ xs : List α, xs.length = n ∧ ∀ i (h : i < xs.length), R i xs[i]
  | 0, _ => ⟨[], rfl, fun i h => by simp at h⟩
  | n + 1, h => by
    obtain ⟨xs, hl, hx⟩ := pick_list n (fun i hi => h i (by omega))
    obtain ⟨x, hxn⟩ := h n (by omega)
    refine ⟨xs ++ [x], by simp [hl], fun i hi => ?_⟩
    by_cases e : i < xs.length
    · rw [List.getElem_append_left e]; exact hx i e
    · have : i = xs.length := by simp at hi; omega
      subst this
      rw [List.getElem_append_right (by omega)]
      simpa [hl] using hxn

theorem Rep.slice_of {α : Type} {r : Rep α} {e : TypeId} {bytes : Nat} (ht : P.underlying t = some (.slice e)) (hn : P.cellsOf e = r.n) (hb : P.bytesOf e = bytes) (hr : r.Of P e) : (Rep.slice r bytes).Of P t := by
  constructor
  intro H enc w base spare held fuel cs d ps hs h hz
  rcases DataW.trod_slice ht h with ⟨rfl, _⟩ | ⟨a, len, cap, elems, rest, n, _, rfl, hx, _, hl, hm, hlen, hel, hsp, _⟩
  · exact ⟨[], none, 0, rfl, by simp, by decide, fun _ => ⟨rfl, rfl⟩, by simp, fun i h => by simp at h⟩
  · obtain ⟨rfl, _⟩ := Prod.mk.inj hx
    have hrest := (hsp (hs _)).1
    have hz0 : (elems.length + rest.length) * bytes ≤ reachBytes := by
      have := hz ((elems.length + rest.length) * P.bytesOf e) (by simp [DataW.weights, ht])
      rwa [hb] at this
    have hzi : ∀ d ∈ elems.map (·.1), ∀ n ∈ d.weights P e, n ≤ reachBytes := fun d hd n hn => hz n (by
      simp only [DataW.weights, ht, List.mem_cons, List.mem_append]
      exact .inr (.inl (weightsAll_mem hd n hn)))
    obtain ⟨xs, hxl, hxs⟩ := pick_list (R := fun i x => ∃ cs, cs.length = r.n ∧ (∀ j v, cs[j]? = some v → w.cell? (a.add (i * r.n + j)) = some v) ∧ r.R w cs x) len (fun i hi => by
      have hi' : i < elems.length := by omega
      have h1 := hel i hi
      rw [List.getElem?_eq_getElem hi'] at h1
      obtain ⟨cs, hc, ht2⟩ := Option.bind_eq_some_iff.1 h1
      obtain ⟨_, hcl, hcc⟩ := World.cells?_some hc
      obtain ⟨x, hx⟩ := hr.out H enc w base spare held n cs elems[i].1 elems[i].2 hs ht2 (hzi _ (List.mem_map.2 ⟨_, List.getElem_mem hi', rfl⟩))
      refine ⟨x, cs, by rw [hcl, hn], fun j v hv => ?_, hx⟩
      have hj : j < cs.length := (List.getElem?_eq_some_iff.1 hv).1
      rw [← hn, ← add_add, hcc j (by omega)]; exact hv)
    refine ⟨xs, some a, cap, by rw [hxl], by omega, hm, (fun e => by cases e), ?_, fun i hi => ?_⟩
    · rw [hlen, hrest] at hz0
      have : len + (cap - len) = cap := by omega
      rwa [this] at hz0
    · obtain ⟨cs, h1, h2, h3⟩ := hxs i hi
      exact ⟨a, cs, rfl, h1, h2, h3⟩

/-- The fields from one on. -/
structure FieldsOf {α : Type} (r : Rep α) (P : Program) (fs : List Field) (off : Nat) : Prop where
  out : ∀ (H : Type) (enc : TypeId × Value → H) (w : World) (base : Nat) (spare : Nat → Bool) (held : Bool) (fuel : Nat) (cs : List Value) (ds : List (DataW H × List MemPlace)),
    (∀ b, spare b = true) → cs.length = off + r.n → ds.length = fs.length →
    (∀ (i : Nat) (f : Field), fs[i]? = some f → DataW.trod enc P w base spare held fuel f.type ((cs.drop f.offset).take (P.cellsOf f.type)) = ds[i]?) →
    (∀ n ∈ DataW.weightsEach P (fs.map (·.type)) (ds.map (·.1)), n ≤ reachBytes) → ∃ x, r.R w (cs.drop off) x

theorem FieldsOf.one {α : Type} {r : Rep α} {f : Field} {off : Nat} (ho : f.offset = off) (hn : P.cellsOf f.type = r.n) (hr : r.Of P f.type) : FieldsOf r P [f] off := by
  constructor
  intro H enc w base spare held fuel cs ds hs hl hd hf hz
  match ds, hd with
  | [d], _ =>
    have h := hf 0 f rfl
    rw [ho, hn, List.take_of_length_le (by rw [List.length_drop]; omega)] at h
    exact hr.out H enc w base spare held fuel _ d.1 d.2 hs h (fun n hn => hz n (by simp [DataW.weightsEach, hn]))

theorem FieldsOf.cons {α β : Type} {r : Rep α} {s : Rep β} {f : Field} {fs : List Field} {off : Nat} (ho : f.offset = off) (hn : P.cellsOf f.type = r.n) (hr : r.Of P f.type) (hrest : FieldsOf s P fs (off + r.n)) : FieldsOf (Rep.pair r s) P (f :: fs) off := by
  constructor
  intro H enc w base spare held fuel cs ds hs hl hd hf hz
  match ds, hd with
  | d :: ds, hd =>
    have h := hf 0 f rfl
    rw [ho, hn] at h
    obtain ⟨x, hx⟩ := hr.out H enc w base spare held fuel _ d.1 d.2 hs h (fun n hn => hz n (by simp [DataW.weightsEach, hn]))
    obtain ⟨y, hy⟩ := hrest.out H enc w base spare held fuel cs ds hs (by rw [hl]; simp [Rep.pair]; omega) (by simpa using hd) (fun i f' hf' => hf (i + 1) f' hf') (fun n hn => hz n (by simp only [List.map_cons, DataW.weightsEach, List.mem_append]; exact .inr hn))
    refine ⟨(x, y), _, _, ?_, ?_, hx, hy⟩
    · rw [← List.drop_drop, List.take_append_drop]
    · rw [List.length_take, List.length_drop, hl]; simp only [Rep.pair]; omega

theorem Rep.struct_of {α : Type} {r : Rep α} {fs : Array Field} (ht : P.underlying t = some (.struct fs)) (hn : P.cellsOf t = r.n) (hf : FieldsOf r P fs.toList 0) : r.Of P t := by
  constructor
  intro H enc w base spare held fuel cs d ps hs h hz
  obtain ⟨xs, n, _, hx, hl, hxl, hxs⟩ := DataW.trod_struct ht h
  obtain ⟨rfl, _⟩ := Prod.mk.inj hx
  have := hf.out H enc w base spare held n cs xs hs (by rw [hl, hn, Nat.zero_add]) (by simpa using hxl) (fun i f hf => hxs i f (by simpa using hf)) (fun n hn => hz n (by simp only [DataW.weights, ht]; exact hn))
  simpa using this
end
end Lec
